/- The plain side of the law FnExactFmtClear: what the twins come to, and that the law's twin answers true at every input of the statement's kind. -/
import Derived.Test.YtbmfhhbifmgikaaFnExactFmtCleara0

namespace Go.Proofs.Ytbmfhhbifmgikaa.P
open Go.RowKit Go.Proofs.YtbmfhhbifmgikaaW.PrintWords
set_option linter.unusedVariables false

theorem w64 {x : Int} (h0 : -9223372036854775808 ≤ x) (h1 : x ≤ 9223372036854775807) : wrap64 x = x := by unfold wrap64; omega
theorem w64_nat (i : Nat) (h : i < 9223372036854775807) : wrap64 ((i : Int) + 1) = ((i + 1 : Nat) : Int) := by rw [w64 (by omega) (by omega)]; omega
theorem take_set_succ {α : Type} (l x : List α) (i : Nat) (h : x.take i = l.take i) (hi : i < x.length) (hl : i < l.length) : (x.set i l[i]).take (i + 1) = l.take (i + 1) := by
  rw [List.take_succ_eq_append_getElem (by simpa using hi), List.take_succ_eq_append_getElem hl]
  rw [List.getElem_set_self, List.take_set_of_le (Nat.le_refl i), h]
theorem take_set_map {α β : Type} (f : α → β) (l : List α) (x : List β) (i : Nat) (h : x.take i = (l.take i).map f) (hi : i < x.length) (hl : i < l.length) : (x.set i (f l[i])).take (i + 1) = (l.take (i + 1)).map f := by
  rw [List.take_succ_eq_append_getElem (by simpa using hi), List.take_succ_eq_append_getElem hl]
  rw [List.getElem_set_self, List.take_set_of_le (Nat.le_refl i), h, List.map_append, List.map_cons, List.map_nil]
theorem rd_eq (l : List Int) (i : Nat) (h : i < l.length) : rd l (i : Int) = l[i] := by
  unfold rd; simp [List.getD_eq_getElem?_getD, List.getElem?_eq_getElem h]
theorem rdOf_eq {α : Type} (z : α) (l : List α) (i : Nat) (h : i < l.length) : rdOf z l (i : Int) = l[i] := by
  unfold rdOf; simp [List.getD_eq_getElem?_getD, List.getElem?_eq_getElem h]
theorem getD_eq {α : Type} (z : α) (l : List α) (i : Nat) (h : i < l.length) : l.getD (i : Int).toNat z = l[i] := by
  simp [List.getD_eq_getElem?_getD, List.getElem?_eq_getElem h]
theorem Ev.rfl' {α : Type} {g : Nat → Option α} {r : α} (h : ∀ k, g k = some r) : Ev g r := ⟨0, fun k _ => h k⟩
theorem Ev.ite_pos {α : Type} {c : Prop} [Decidable c] {g f : Nat → Option α} {r : α} (h : c) (k : Ev g r) : Ev (fun n => if c then g n else f n) r := Ev.congr (fun n => if_pos h) k
theorem Ev.ite_neg {α : Type} {c : Prop} [Decidable c] {g f : Nat → Option α} {r : α} (h : ¬ c) (k : Ev f r) : Ev (fun n => if c then g n else f n) r := Ev.congr (fun n => if_neg h) k
/-- One step of a loop that ends there. -/
theorem Ev.stop {α : Type} {g : Nat → Option α} {r : α} (h : ∀ k, g (k + 1) = some r) : Ev g r := ⟨1, fun k hk => by obtain ⟨m, rfl⟩ : ∃ m, k = m + 1 := ⟨k - 1, by omega⟩; exact h m⟩
/-- A function without rounds ahead. -/
theorem Ev.pre {α β : Type} {a : Option α} {x : α} {f : Nat → α → Option β} {r : β} (h : a = some x) (k : Ev (fun n => f n x) r) : Ev (fun n => a.bind (f n)) r := by
  subst h; exact k
/-- A round ahead. -/
theorem Ev.shift {α : Type} {g : Nat → Option α} {r : α} (h : Ev (fun k => g (k + 1)) r) : Ev g r := Ev.step (fun _ => rfl) h
theorem toList_data (s : ByteArray) : s.toList = s.data.toList := ByteArray.toList_eq s
theorem bytes_eq {a b : ByteArray} (h : a.toList = b.toList) : a = b := by
  rw [toList_data, toList_data] at h
  cases a; cases b; simp only [Array.toList_inj] at h; rw [h]
end Go.Proofs.Ytbmfhhbifmgikaa.P

namespace Go.Proofs.Ytbmfhhbifmgikaa.P
open Go.RowKit Go.Proofs.YtbmfhhbifmgikaaW.PrintWords Go.Proofs.Ytbmfhhbifmgikaa.G
set_option linter.unusedVariables false

theorem toIntS_l0 (l : List Int) (hl : l.length < 1099511627776) : ∀ (d i : Nat) (x : List Int), i + d = l.length → x.length = l.length → x.take i = l.take i → Ev (fun k => laws_toIntS.l0 k l x (i : Int)) l := by
  intro d
  induction d with
  | zero =>
    intro i x hi hx ht
    refine Ev.stop fun k => ?_
    have : x = l := by rw [← List.take_of_length_le (l := x) (i := i) (by omega), ht, List.take_of_length_le (by omega)]
    simp only [laws_toIntS.l0]; rw [if_neg (by omega), this]
  | succ d ih =>
    intro i x hi hx ht
    refine Ev.step (f := fun k => laws_toIntS.l0 k l (x.set i l[i]) ((i + 1 : Nat) : Int)) (fun k => ?_) (ih (i + 1) _ (by omega) (by simpa using hx) (take_set_succ l x i ht (by omega) (by omega)))
    simp only [laws_toIntS.l0]
    rw [if_pos (by omega), if_pos (by omega), if_pos (by omega), w64_nat i (by omega), rd_eq l i (by omega)]
    simp
theorem toIntS_ev (l : List Int) (hl : l.length < 1099511627776) : Ev (fun k => laws_toIntS.f k l) l := by
  unfold laws_toIntS.f
  refine Ev.ite_pos (by omega) (Ev.ite_pos (by simp; omega) ?_)
  exact toIntS_l0 l hl l.length 0 _ (by omega) (by simp) (by simp)

theorem eqIntS_l0 (a b : List Int) (hl : a.length < 1099511627776) (he : a.length = b.length) : ∀ (d i : Nat), i + d = a.length → a.take i = b.take i → Ev (fun k => laws_eqIntS.l0 k a b (i : Int)) (decide (a = b)) := by
  intro d
  induction d with
  | zero =>
    intro i hi ht
    refine Ev.stop fun k => ?_
    have : a = b := by rw [← List.take_of_length_le (l := a) (i := i) (by omega), ht, List.take_of_length_le (by omega)]
    simp only [laws_eqIntS.l0]; rw [if_neg (by omega)]; simp [this]
  | succ d ih =>
    intro i hi ht
    by_cases h : a[i] = b[i]
    · refine Ev.step (f := fun k => laws_eqIntS.l0 k a b ((i + 1 : Nat) : Int)) (fun k => ?_) (ih (i + 1) (by omega) (by rw [List.take_succ_eq_append_getElem (by omega), List.take_succ_eq_append_getElem (by omega), ht, h]))
      simp only [laws_eqIntS.l0]
      rw [if_pos (by omega), if_pos (by omega), if_pos (by omega), rd_eq a i (by omega), rd_eq b i (by omega)]
      simp only [h, w64_nat i (show i < 9223372036854775807 by omega)]
      simp
    · refine Ev.stop fun k => ?_
      simp only [laws_eqIntS.l0]
      rw [if_pos (by omega), if_pos (by omega), if_pos (by omega), rd_eq a i (by omega), rd_eq b i (by omega)]
      have hn : ¬ a = b := fun e => h (by subst e; rfl)
      simp [h, hn]
theorem eqIntS_ev (a b : List Int) (hl : a.length < 1099511627776) : Ev (fun k => laws_eqIntS.f k a b) (decide (a = b)) := by
  unfold laws_eqIntS.f
  by_cases he : a.length = b.length
  · refine Ev.ite_pos (by omega) ?_
    exact eqIntS_l0 a b hl he a.length 0 (by omega) (by simp)
  · refine Ev.ite_neg (by omega) (Ev.rfl' fun k => ?_)
    have hn : ¬ a = b := fun e => he (by rw [e])
    simp [hn]
theorem eqIntS_self (a : List Int) (hl : a.length < 1099511627776) : Ev (fun k => laws_eqIntS.f k a a) true := by
  have := eqIntS_ev a a hl
  simpa using this

end Go.Proofs.Ytbmfhhbifmgikaa.P

namespace Go.Proofs.Ytbmfhhbifmgikaa.P
open Go.RowKit Go.Proofs.YtbmfhhbifmgikaaW.PrintWords Go.Proofs.Ytbmfhhbifmgikaa.G
set_option linter.unusedVariables false

def mk (a : Int) (n : Nat) : List Int := (List.range n).map (fun (j : Nat) => a + (j : Int))
theorem mk_len (a : Int) (n : Nat) : (mk a n).length = n := by simp [mk]
theorem mk_get (a : Int) (n j : Nat) (h : j < (mk a n).length) : (mk a n)[j] = a + j := by simp [mk]
theorem mk_succ (a : Int) (n : Nat) : mk a (n + 1) = mk a n ++ [a + n] := by simp [mk, List.range_succ]
theorem set_mid {α : Type} (u l : List α) (v : α) (i : Nat) (hu : u.length = i) (hi : i < l.length) : (u ++ l.drop i).set i v = (u ++ [v]) ++ l.drop (i + 1) := by
  subst hu
  rw [List.set_append_right _ _ (Nat.le_refl _), Nat.sub_self, List.drop_eq_getElem_cons hi, List.set_cons_zero, List.append_assoc]
  rfl

theorem markIntS_l0 (l : List Int) (a : Int) (ha : 0 ≤ a) (hb : a < 1099511627776) (hl : l.length < 1099511627776) : ∀ (d i : Nat), i + d = l.length → Ev (fun k => laws_markIntS.l0 k (mk a i ++ l.drop i) (a + i) (i : Int)) (a + l.length, mk a l.length) := by
  intro d
  induction d with
  | zero =>
    intro i hi
    refine Ev.stop fun k => ?_
    obtain rfl : i = l.length := by omega
    simp only [laws_markIntS.l0]; rw [if_neg (by simp [mk_len])]; simp
  | succ d ih =>
    intro i hi
    refine Ev.step (f := fun k => laws_markIntS.l0 k (mk a (i + 1) ++ l.drop (i + 1)) (a + ((i + 1 : Nat) : Int)) ((i + 1 : Nat) : Int)) (fun k => ?_) (ih (i + 1) (by omega))
    simp only [laws_markIntS.l0]
    rw [if_pos (by simp [mk_len]; omega), if_pos (by omega), w64_nat i (by omega), w64 (x := a + ↑i + 1) (by omega) (by omega)]
    rw [show ((i : Int)).toNat = i from by simp, set_mid _ l _ i (mk_len a i) (by omega), mk_succ]
    simp; congr 1; omega
theorem markIntS_ev (l : List Int) (a : Int) (ha : 0 ≤ a) (hb : a < 1099511627776) (hl : l.length < 1099511627776) : Ev (fun k => laws_markIntS.f k l a) (a + l.length, mk a l.length) := by
  have := markIntS_l0 l a ha hb hl l.length 0 (by omega)
  simpa [laws_markIntS.f, mk] using this
theorem heldIntS_l0 (n : Nat) (a : Int) (ha : 0 ≤ a) (hb : a < 1099511627776) (hl : n < 1099511627776) : ∀ (d i : Nat), i + d = n → Ev (fun k => laws_heldIntS.l0 k (mk a n) (a + i) (i : Int)) (a + n) := by
  intro d
  induction d with
  | zero =>
    intro i hi
    refine Ev.stop fun k => ?_
    obtain rfl : i = n := by omega
    simp only [laws_heldIntS.l0]; rw [if_neg (by simp [mk_len])]
  | succ d ih =>
    intro i hi
    refine Ev.step (f := fun k => laws_heldIntS.l0 k (mk a n) (a + ((i + 1 : Nat) : Int)) ((i + 1 : Nat) : Int)) (fun k => ?_) (ih (i + 1) (by omega))
    simp only [laws_heldIntS.l0]
    rw [if_pos (by simp [mk_len]; omega), if_pos (by omega), rd_eq _ i (by simp [mk_len]; omega), mk_get, if_pos rfl, w64_nat i (by omega), w64 (x := a + ↑i + 1) (by omega) (by omega)]
    congr 1; omega
theorem heldIntS_ev (n : Nat) (a : Int) (ha : 0 ≤ a) (hb : a < 1099511627776) (hl : n < 1099511627776) : Ev (fun k => laws_heldIntS.f k (mk a n) a) (a + n) := by
  have := heldIntS_l0 n a ha hb hl n 0 (by omega)
  simpa [laws_heldIntS.f] using this

end Go.Proofs.Ytbmfhhbifmgikaa.P

namespace Go.Proofs.Ytbmfhhbifmgikaa.Pure
open Go.RowKit Go.Proofs.YtbmfhhbifmgikaaW.PrintWords Go.Proofs.Ytbmfhhbifmgikaa.G Go.Proofs.Ytbmfhhbifmgikaa.P
set_option linter.unusedVariables false

/-- The place behind the last bar of the first n. -/
def lastB (l : List Int) : Nat → Nat
  | 0 => 0
  | n + 1 => if l.getD n 0 = -1 then n + 1 else lastB l n
theorem lastB_le (l : List Int) : ∀ n, lastB l n ≤ n
  | 0 => Nat.le_refl _
  | n + 1 => by unfold lastB; split; exact Nat.le_refl _; exact Nat.le_succ_of_le (lastB_le l n)
theorem from_l0 (l : List Int) (hl : l.length < 1099511627776) : ∀ n, n ≤ l.length → Ev (fun k => spec_l11From.l0 k l (n : Int)) ((lastB l n : Nat) : Int) := by
  intro n
  induction n with
  | zero => exact fun _ => Ev.stop fun k => by simp [spec_l11From.l0, lastB]
  | succ n ih =>
    intro hn
    have hw : wrap64 (((n + 1 : Nat) : Int) - 1) = (n : Int) := by rw [w64 (by omega) (by omega)]; omega
    by_cases h : l[n] = -1
    · refine Ev.stop fun k => ?_
      simp only [spec_l11From.l0]
      rw [if_pos (by omega), hw, if_pos (by omega), if_pos (by omega), rd_eq l n (by omega), if_pos h]
      simp [lastB, List.getElem?_eq_getElem (show n < l.length by omega), h]
    · refine Ev.step (f := fun k => spec_l11From.l0 k l (n : Int)) (fun k => ?_) ?_
      · simp only [spec_l11From.l0]
        rw [if_pos (by omega), hw, if_pos (by omega), if_pos (by omega), rd_eq l n (by omega), if_neg h]
      · have := ih (by omega)
        rw [show lastB l (n + 1) = lastB l n from by simp [lastB, List.getElem?_eq_getElem (show n < l.length by omega), h]]
        exact this
theorem from_ev (l : List Int) (hl : l.length < 1099511627776) : Ev (fun k => spec_l11From.f k l) ((lastB l l.length : Nat) : Int) := from_l0 l hl l.length (Nat.le_refl _)
theorem bar_l0 (l : List Int) (hl : l.length < 1099511627776) : ∀ n, n ≤ l.length → Ev (fun k => impl_lastBar.l0 k l ((n : Int) - 1)) ((lastB l n : Nat) - 1 : Int) := by
  intro n
  induction n with
  | zero => exact fun _ => Ev.stop fun k => by simp [impl_lastBar.l0, lastB]
  | succ n ih =>
    intro hn
    have e : ((n + 1 : Nat) : Int) - 1 = (n : Int) := by omega
    rw [e]
    by_cases h : l[n] = -1
    · refine Ev.stop fun k => ?_
      simp only [impl_lastBar.l0]
      rw [if_pos (by omega), if_pos (by omega), if_pos (by omega), rd_eq l n (by omega), if_pos h]
      simp [lastB, List.getElem?_eq_getElem (show n < l.length by omega), h]
    · refine Ev.step (f := fun k => impl_lastBar.l0 k l ((n : Int) - 1)) (fun k => ?_) ?_
      · simp only [impl_lastBar.l0]
        rw [if_pos (by omega), if_pos (by omega), if_pos (by omega), rd_eq l n (by omega), if_neg h, w64 (by omega) (by omega)]
      · have := ih (by omega)
        rw [show lastB l (n + 1) = lastB l n from by simp [lastB, List.getElem?_eq_getElem (show n < l.length by omega), h]]
        exact this
theorem bar_ev (l : List Int) (hl : l.length < 1099511627776) : Ev (fun k => impl_lastBar.f k l) ((lastB l l.length : Nat) - 1 : Int) := by
  unfold impl_lastBar.f
  rw [w64 (by omega) (by omega)]
  exact bar_l0 l hl l.length (Nat.le_refl _)
/-- What both come to. -/
def cleared (l : List Int) : List Int := l.take (lastB l l.length - 1)
theorem spec_ev (l : List Int) (hl : l.length < 1099511627776) : Ev (fun k => spec_FmtClear.f k l) (cleared l) := by
  have hb := lastB_le l l.length
  unfold spec_FmtClear.f
  refine Ev.pre rfl ?_
  refine Ev.bind (from_ev l hl) ?_
  have h1 : spec_l1Max.f (wrap64 (((lastB l l.length : Nat) : Int) - 1)) 0 = some ((lastB l l.length - 1 : Nat) : Int) := by
    rw [w64 (by omega) (by omega)]
    unfold spec_l1Max.f
    by_cases h : ((lastB l l.length : Nat) : Int) - 1 > 0
    · rw [if_pos h]; congr 1; omega
    · rw [if_neg h]; congr 1; omega
  refine Ev.pre h1 ?_
  refine Ev.ite_pos (by omega) (Ev.ite_pos (by omega) (Ev.ite_pos (by simp; omega) (Ev.rfl' fun k => ?_)))
  simp [cleared]
theorem impl_ev (l : List Int) (hl : l.length < 1099511627776) : Ev (fun k => impl_FmtClear.f k l) (cleared l) := by
  have hb := lastB_le l l.length
  unfold impl_FmtClear.f
  refine Ev.bind (bar_ev l hl) ?_
  have h1 : mx (((lastB l l.length : Nat) : Int) - 1) 0 = ((lastB l l.length - 1 : Nat) : Int) := by unfold mx; omega
  rw [h1]
  refine Ev.ite_pos (by omega) (Ev.ite_pos (by omega) (Ev.pre (x := cleared l) ?_ (Ev.rfl' fun k => rfl)))
  unfold slices_Clone_int_int.f
  rw [if_pos (by simp; omega)]
  simp [cleared]
theorem FnExactFmtClear : laws_FnExactFmtClear.Pure := by
  intro l _ _ _
  refine Ev.rounds (r := true) ?_
  unfold laws_FnExactFmtClear.f
  by_cases hbig : (l.length : Int) > 1048576
  · exact Ev.ite_pos hbig (Ev.rfl' fun _ => rfl)
  · have hl : l.length < 1099511627776 := by omega
    have hc : (cleared l).length ≤ l.length := by simp [cleared]; omega
    refine Ev.ite_neg hbig (Ev.bind (toIntS_ev l hl) (Ev.bind (spec_ev l hl) (Ev.bind (toIntS_ev l hl) (Ev.bind (impl_ev l hl) (Ev.bind (eqIntS_self _ (by omega)) (Ev.ite_pos rfl (Ev.bind (toIntS_ev l hl) (Ev.bind (eqIntS_self _ hl) (Ev.ite_pos rfl (Ev.bind (markIntS_ev l 1 (by omega) (by omega) hl) ?_))))))))))
    refine Ev.ite_neg (by simp; omega) (Ev.bind (eqIntS_self _ (by omega)) ?_)
    refine Ev.shift ?_
    simp only [laws_FnExactFmtClear.j0]
    refine Ev.ite_neg (by simp) ?_
    have hm := heldIntS_ev (cleared l).length 1 (by omega) (by omega) (by omega)
    refine Ev.bind (markIntS_ev (cleared l) 1 (by omega) (by omega) (by omega)) (Ev.bind hm ?_)
    refine Ev.ite_neg (by omega) (Ev.ite_pos rfl (Ev.bind (toIntS_ev l hl) (Ev.bind (impl_ev l hl) (Ev.bind (eqIntS_self _ (by omega)) (Ev.ite_pos rfl (Ev.bind hm ?_))))))
    exact Ev.ite_neg (by omega) (Ev.ite_pos rfl (Ev.rfl' fun _ => rfl))
end Go.Proofs.Ytbmfhhbifmgikaa.Pure

/- The plain side of the law FnExactSectorOf: what the twins come to, and that the law's twin answers true at every input of the statement's kind. -/
import Derived.ProofKit
import Derived.SizedLaws
import Derived.WideShapes
import Derived.Test.YtbmfhhbifmgikaaFnExactSectorOfa0
import Derived.Test.YtbmfhhbifmgikaaFnExactSectorOfa1

namespace Go.Proofs.Ytbmfhhbifmgikaa.P
open Go.RowKit Go.Proofs.YtbmfhhbifmgikaaW.PrintWords
set_option linter.unusedVariables false

theorem w64 {x : Int} (h0 : -9223372036854775808 ≤ x) (h1 : x ≤ 9223372036854775807) : wrap64 x = x := by unfold wrap64; omega
theorem w64_nat (i : Nat) (h : i < 9223372036854775807) : wrap64 ((i : Int) + 1) = ((i + 1 : Nat) : Int) := by rw [w64 (by omega) (by omega)]; omega
theorem take_set_succ {α : Type} (l x : List α) (i : Nat) (h : x.take i = l.take i) (hi : i < x.length) (hl : i < l.length) : (x.set i l[i]).take (i + 1) = l.take (i + 1) := by
  rw [List.take_succ_eq_append_getElem (by simpa using hi), List.take_succ_eq_append_getElem hl]
  rw [List.getElem_set_self, List.take_set_of_le (Nat.le_refl i), h]
theorem take_set_map {α β : Type} (f : α → β) (l : List α) (x : List β) (i : Nat) (h : x.take i = (l.take i).map f) (hi : i < x.length) (hl : i < l.length) : (x.set i (f l[i])).take (i + 1) = (l.take (i + 1)).map f := by
  rw [List.take_succ_eq_append_getElem (by simpa using hi), List.take_succ_eq_append_getElem hl]
  rw [List.getElem_set_self, List.take_set_of_le (Nat.le_refl i), h, List.map_append, List.map_cons, List.map_nil]
theorem rd_eq (l : List Int) (i : Nat) (h : i < l.length) : rd l (i : Int) = l[i] := by
  unfold rd; simp [List.getD_eq_getElem?_getD, List.getElem?_eq_getElem h]
theorem rdOf_eq {α : Type} (z : α) (l : List α) (i : Nat) (h : i < l.length) : rdOf z l (i : Int) = l[i] := by
  unfold rdOf; simp [List.getD_eq_getElem?_getD, List.getElem?_eq_getElem h]
theorem getD_eq {α : Type} (z : α) (l : List α) (i : Nat) (h : i < l.length) : l.getD (i : Int).toNat z = l[i] := by
  simp [List.getD_eq_getElem?_getD, List.getElem?_eq_getElem h]
theorem Ev.rfl' {α : Type} {g : Nat → Option α} {r : α} (h : ∀ k, g k = some r) : Ev g r := ⟨0, fun k _ => h k⟩
theorem Ev.ite_pos {α : Type} {c : Prop} [Decidable c] {g f : Nat → Option α} {r : α} (h : c) (k : Ev g r) : Ev (fun n => if c then g n else f n) r := Ev.congr (fun n => if_pos h) k
theorem Ev.ite_neg {α : Type} {c : Prop} [Decidable c] {g f : Nat → Option α} {r : α} (h : ¬ c) (k : Ev f r) : Ev (fun n => if c then g n else f n) r := Ev.congr (fun n => if_neg h) k
/-- One step of a loop that ends there. -/
theorem Ev.stop {α : Type} {g : Nat → Option α} {r : α} (h : ∀ k, g (k + 1) = some r) : Ev g r := ⟨1, fun k hk => by obtain ⟨m, rfl⟩ : ∃ m, k = m + 1 := ⟨k - 1, by omega⟩; exact h m⟩
/-- A function without rounds ahead. -/
theorem Ev.pre {α β : Type} {a : Option α} {x : α} {f : Nat → α → Option β} {r : β} (h : a = some x) (k : Ev (fun n => f n x) r) : Ev (fun n => a.bind (f n)) r := by
  subst h; exact k
/-- A round ahead. -/
theorem Ev.shift {α : Type} {g : Nat → Option α} {r : α} (h : Ev (fun k => g (k + 1)) r) : Ev g r := Ev.step (fun _ => rfl) h
theorem toList_data (s : ByteArray) : s.toList = s.data.toList := ByteArray.toList_eq s
theorem bytes_eq {a b : ByteArray} (h : a.toList = b.toList) : a = b := by
  rw [toList_data, toList_data] at h
  cases a; cases b; simp only [Array.toList_inj] at h; rw [h]
end Go.Proofs.Ytbmfhhbifmgikaa.P

namespace Go.Proofs.Ytbmfhhbifmgikaa.P
open Go.RowKit Go.Proofs.YtbmfhhbifmgikaaW.PrintWords Go.Proofs.Ytbmfhhbifmgikaa.G
set_option linter.unusedVariables false

/-- Sizes: what is left, or less than nothing. -/
theorem szStringS_l0 (l : List ByteArray) (hl : l.length < 17592186044416) (hs : ∀ s ∈ l, s.size ≤ 140737488351232) : ∀ (d i : Nat) (a : Int), i + d = l.length → 0 ≤ a → a ≤ 1048576 →
    ∃ r, Ev (fun k => laws_szStringS.l0 k l a (i : Int)) r ∧ (r < 0 ∨ (0 ≤ r ∧ r ≤ a ∧ ∀ s ∈ l.drop i, s.size ≤ 1048576)) := by
  intro d
  induction d with
  | zero =>
    intro i a hi ha hb
    refine ⟨a, Ev.stop fun k => ?_, .inr ⟨ha, Int.le_refl _, ?_⟩⟩
    · simp only [laws_szStringS.l0]; rw [if_neg (by omega)]
    · rw [List.drop_eq_nil_of_le (by omega)]; simp
  | succ d ih =>
    intro i a hi ha hb
    have hm := hs l[i] (List.getElem_mem _)
    by_cases hn : a - (l[i].size : Int) < 0
    · refine ⟨-1, Ev.stop fun k => ?_, .inl (by omega)⟩
      simp only [laws_szStringS.l0]
      rw [if_pos (by omega), if_pos (by omega), rdOf_eq _ l i (by omega), w64 (by omega) (by omega), if_pos hn]
    · obtain ⟨r, h1, h2⟩ := ih (i + 1) (a - (l[i].size : Int)) (by omega) (by omega) (by omega)
      refine ⟨r, Ev.step (f := fun k => laws_szStringS.l0 k l (a - (l[i].size : Int)) ((i + 1 : Nat) : Int)) (fun k => ?_) h1, ?_⟩
      · simp only [laws_szStringS.l0]
        rw [if_pos (by omega), if_pos (by omega), rdOf_eq _ l i (by omega), w64 (by omega) (by omega), if_neg hn, w64_nat i (by omega)]
      · rcases h2 with h2 | ⟨h2, h3, h4⟩
        · exact .inl h2
        · refine .inr ⟨h2, by omega, ?_⟩
          rw [List.drop_eq_getElem_cons (by omega)]
          intro s hs'
          rcases List.mem_cons.1 hs' with rfl | hs'
          · omega
          · exact h4 s hs'
theorem szStringS_ev (l : List ByteArray) (a : Int) (hl : l.length < 17592186044416) (hs : ∀ s ∈ l, s.size ≤ 140737488351232) (ha : 0 ≤ a) (hb : a ≤ 1048576) :
    ∃ r, Ev (fun k => laws_szStringS.f k l a) r ∧ (r < 0 ∨ (0 ≤ r ∧ r ≤ a ∧ l.length ≤ 1048576 ∧ ∀ s ∈ l, s.size ≤ 1048576)) := by
  by_cases hn : a - (l.length : Int) < 0
  · refine ⟨-1, Ev.rfl' fun k => ?_, .inl (by omega)⟩
    unfold laws_szStringS.f
    rw [w64 (by omega) (by omega), if_pos hn]
  · obtain ⟨r, h1, h2⟩ := szStringS_l0 l hl hs l.length 0 (a - (l.length : Int)) (by omega) (by omega) (by omega)
    refine ⟨r, Ev.congr (fun k => ?_) h1, ?_⟩
    · unfold laws_szStringS.f
      rw [w64 (by omega) (by omega), if_neg hn]; rfl
    · rcases h2 with h2 | ⟨h2, h3, h4⟩
      · exact .inl h2
      · exact .inr ⟨h2, by omega, by omega, by simpa using h4⟩
theorem szPutS_l0 (l : List S82) (hl : l.length < 17592186044416) (hs : ∀ s ∈ l, s.f1.size ≤ 140737488351232) : ∀ (d i : Nat) (a : Int), i + d = l.length → 0 ≤ a → a ≤ 1048576 →
    ∃ r, Ev (fun k => laws_szPutS.l0 k l a (i : Int)) r ∧ (r < 0 ∨ (0 ≤ r ∧ r ≤ a ∧ ∀ s ∈ l.drop i, s.f1.size ≤ 1048576)) := by
  intro d
  induction d with
  | zero =>
    intro i a hi ha hb
    refine ⟨a, Ev.stop fun k => ?_, .inr ⟨ha, Int.le_refl _, ?_⟩⟩
    · simp only [laws_szPutS.l0]; rw [if_neg (by omega)]
    · rw [List.drop_eq_nil_of_le (by omega)]; simp
  | succ d ih =>
    intro i a hi ha hb
    have hm := hs l[i] (List.getElem_mem _)
    have hg : rd_T82 l (i : Int) = l[i] := getD_eq _ l i (by omega)
    by_cases hn : a - (l[i].f1.size : Int) < 0
    · refine ⟨-1, Ev.stop fun k => ?_, .inl (by omega)⟩
      simp only [laws_szPutS.l0, laws_szPut.f]
      rw [if_pos (by omega), if_pos (by omega), hg, w64 (by omega) (by omega), if_pos hn]
      rfl
    · obtain ⟨r, h1, h2⟩ := ih (i + 1) (a - (l[i].f1.size : Int)) (by omega) (by omega) (by omega)
      refine ⟨r, Ev.step (f := fun k => laws_szPutS.l0 k l (a - (l[i].f1.size : Int)) ((i + 1 : Nat) : Int)) (fun k => ?_) h1, ?_⟩
      · simp only [laws_szPutS.l0, laws_szPut.f]
        rw [if_pos (by omega), if_pos (by omega), hg, w64 (by omega) (by omega), if_neg hn]
        simp only [Option.bind_some]
        rw [if_neg hn, w64_nat i (by omega)]
      · rcases h2 with h2 | ⟨h2, h3, h4⟩
        · exact .inl h2
        · refine .inr ⟨h2, by omega, ?_⟩
          rw [List.drop_eq_getElem_cons (by omega)]
          intro s hs'
          rcases List.mem_cons.1 hs' with rfl | hs'
          · omega
          · exact h4 s hs'
theorem szPutS_ev (l : List S82) (a : Int) (hl : l.length < 17592186044416) (hs : ∀ s ∈ l, s.f1.size ≤ 140737488351232) (ha : 0 ≤ a) (hb : a ≤ 1048576) :
    ∃ r, Ev (fun k => laws_szPutS.f k l a) r ∧ (r < 0 ∨ (0 ≤ r ∧ r ≤ a ∧ l.length ≤ 1048576 ∧ ∀ s ∈ l, s.f1.size ≤ 1048576)) := by
  by_cases hn : a - (l.length : Int) < 0
  · refine ⟨-1, Ev.rfl' fun k => ?_, .inl (by omega)⟩
    unfold laws_szPutS.f
    rw [w64 (by omega) (by omega), if_pos hn]
  · obtain ⟨r, h1, h2⟩ := szPutS_l0 l hl hs l.length 0 (a - (l.length : Int)) (by omega) (by omega) (by omega)
    refine ⟨r, Ev.congr (fun k => ?_) h1, ?_⟩
    · unfold laws_szPutS.f
      rw [w64 (by omega) (by omega), if_neg hn]; rfl
    · rcases h2 with h2 | ⟨h2, h3, h4⟩
      · exact .inl h2
      · exact .inr ⟨h2, by omega, by omega, by simpa using h4⟩
/-- A disk within the laws' reach. -/
def Small (a : List ByteArray) (b : List S82) : Prop := a.length ≤ 1048576 ∧ (∀ s ∈ a, s.size ≤ 1048576) ∧ b.length ≤ 1048576 ∧ ∀ s ∈ b, s.f1.size ≤ 1048576
theorem szDisk_ev (a : List ByteArray) (b : List S82) (ha : a.length * 16 ≤ 140737488351232 ∧ ∀ s ∈ a, s.size ≤ 140737488351232) (hb : b.length * 24 ≤ 140737488351232 ∧ ∀ p ∈ b, ((Lit.int .i64 p.f0).wf = true ∧ p.f1.size ≤ 140737488351232)) :
    ∃ r, Ev (fun k => laws_szDisk.f k a b 1048576) r ∧ (r < 0 ∨ Small a b) := by
  obtain ⟨r, h1, h2⟩ := szStringS_ev a 1048576 (by omega) ha.2 (by omega) (by omega)
  unfold laws_szDisk.f
  by_cases hr : r < 0
  · exact ⟨-1, Ev.bind h1 (Ev.ite_pos hr (Ev.rfl' fun _ => rfl)), .inl (by omega)⟩
  · rcases h2 with h2 | ⟨g1, g2, g3, g4⟩
    · exact absurd h2 hr
    · obtain ⟨r', h3, h4⟩ := szPutS_ev b r (by omega) (fun p hp => (hb.2 p hp).2) g1 (by omega)
      by_cases hr' : r' < 0
      · exact ⟨-1, Ev.bind h1 (Ev.ite_neg hr (Ev.bind h3 (Ev.ite_pos hr' (Ev.rfl' fun _ => rfl)))), .inl (by omega)⟩
      · rcases h4 with h4 | ⟨g5, g6, g7, g8⟩
        · exact absurd h4 hr'
        · exact ⟨r', Ev.bind h1 (Ev.ite_neg hr (Ev.bind h3 (Ev.ite_neg hr' (Ev.rfl' fun _ => rfl)))), .inr ⟨g3, g4, g7, g8⟩⟩

theorem toStringS_l0 (l : List ByteArray) (hl : l.length < 1099511627776) : ∀ (d i : Nat) (x : List ByteArray), i + d = l.length → x.length = l.length → x.take i = l.take i → Ev (fun k => laws_toStringS.l0 k l x (i : Int)) l := by
  intro d
  induction d with
  | zero =>
    intro i x hi hx ht
    refine Ev.stop fun k => ?_
    have : x = l := by rw [← List.take_of_length_le (l := x) (i := i) (by omega), ht, List.take_of_length_le (by omega)]
    simp only [laws_toStringS.l0]; rw [if_neg (by omega), this]
  | succ d ih =>
    intro i x hi hx ht
    refine Ev.step (f := fun k => laws_toStringS.l0 k l (x.set i l[i]) ((i + 1 : Nat) : Int)) (fun k => ?_) (ih (i + 1) _ (by omega) (by simpa using hx) (take_set_succ l x i ht (by omega) (by omega)))
    simp only [laws_toStringS.l0]
    rw [if_pos (by omega), if_pos (by omega), if_pos (by omega), w64_nat i (by omega), rdOf_eq _ l i (by omega)]
    simp
theorem toStringS_ev (l : List ByteArray) (hl : l.length < 1099511627776) : Ev (fun k => laws_toStringS.f k l) l := by
  unfold laws_toStringS.f
  refine Ev.ite_pos (by omega) (Ev.ite_pos (by simp; omega) ?_)
  exact toStringS_l0 l hl l.length 0 _ (by omega) (by simp) (by simp)
/-- A put as the program has it. -/
def cvPut (p : S82) : S64 := ⟨p.f0, p.f1⟩
theorem toPutS_l0 (l : List S82) (hl : l.length < 1099511627776) : ∀ (d i : Nat) (x : List S64), i + d = l.length → x.length = l.length → x.take i = (l.take i).map cvPut → Ev (fun k => laws_toPutS.l0 k l x (i : Int)) (l.map cvPut) := by
  intro d
  induction d with
  | zero =>
    intro i x hi hx ht
    refine Ev.stop fun k => ?_
    have : x = l.map cvPut := by rw [← List.take_of_length_le (l := x) (i := i) (by omega), ht, List.take_of_length_le (by omega)]
    simp only [laws_toPutS.l0]; rw [if_neg (by omega), this]
  | succ d ih =>
    intro i x hi hx ht
    refine Ev.step (f := fun k => laws_toPutS.l0 k l (x.set i (cvPut l[i])) ((i + 1 : Nat) : Int)) (fun k => ?_) (ih (i + 1) _ (by omega) (by simpa using hx) (take_set_map cvPut l x i ht (by omega) (by omega)))
    have hg : rd_T82 l (i : Int) = l[i] := getD_eq _ l i (by omega)
    simp only [laws_toPutS.l0, laws_toPut.f]
    rw [if_pos (by omega), if_pos (by omega), hg]
    simp only [Option.bind_some]
    rw [if_pos (by omega), w64_nat i (by omega)]
    simp [cvPut]
theorem toPutS_ev (l : List S82) (hl : l.length < 1099511627776) : Ev (fun k => laws_toPutS.f k l) (l.map cvPut) := by
  unfold laws_toPutS.f
  refine Ev.ite_pos (by omega) (Ev.ite_pos (by simp; omega) ?_)
  exact toPutS_l0 l hl l.length 0 _ (by omega) (by simp) (by simp)
theorem toDisk_ev (a : List ByteArray) (b : List S82) (h : Small a b) : Ev (fun k => laws_toDisk.f k a b) (a, b.map cvPut) := by
  obtain ⟨h1, _, h3, _⟩ := h
  exact Ev.bind (toStringS_ev a (by omega)) (Ev.bind (toPutS_ev b (by omega)) (Ev.rfl' fun _ => rfl))

theorem eqStringS_l0 (a : List ByteArray) (hl : a.length < 1099511627776) : ∀ (d i : Nat), i + d = a.length → Ev (fun k => laws_eqStringS.l0 k a a (i : Int)) true := by
  intro d
  induction d with
  | zero => exact fun i hi => Ev.stop fun k => by simp only [laws_eqStringS.l0]; rw [if_neg (by omega)]
  | succ d ih =>
    intro i hi
    refine Ev.step (f := fun k => laws_eqStringS.l0 k a a ((i + 1 : Nat) : Int)) (fun k => ?_) (ih (i + 1) (by omega))
    simp only [laws_eqStringS.l0]
    rw [if_pos (by omega), if_pos (by omega), if_pos (by omega), if_pos trivial, w64_nat i (by omega)]
theorem eqStringS_self (a : List ByteArray) (hl : a.length < 1099511627776) : Ev (fun k => laws_eqStringS.f k a a) true := by
  unfold laws_eqStringS.f
  exact Ev.ite_pos rfl (eqStringS_l0 a hl a.length 0 (by omega))
theorem eqPutS_l0 (a : List S64) (hl : a.length < 1099511627776) : ∀ (d i : Nat), i + d = a.length → Ev (fun k => laws_eqPutS.l0 k a a (i : Int)) true := by
  intro d
  induction d with
  | zero => exact fun i hi => Ev.stop fun k => by simp only [laws_eqPutS.l0]; rw [if_neg (by omega)]
  | succ d ih =>
    intro i hi
    refine Ev.step (f := fun k => laws_eqPutS.l0 k a a ((i + 1 : Nat) : Int)) (fun k => ?_) (ih (i + 1) (by omega))
    simp only [laws_eqPutS.l0, laws_eqPut.f]
    rw [if_pos (by omega), if_pos (by omega), if_pos (by omega), if_pos trivial, if_pos trivial, w64_nat i (by omega)]
    simp
theorem eqPutS_self (a : List S64) (hl : a.length < 1099511627776) : Ev (fun k => laws_eqPutS.f k a a) true := by
  unfold laws_eqPutS.f
  exact Ev.ite_pos rfl (eqPutS_l0 a hl a.length 0 (by omega))
theorem eqDisk_self (a : List ByteArray) (b : List S64) (h1 : a.length < 1099511627776) (h2 : b.length < 1099511627776) : Ev (fun k => laws_eqDisk.f k a b a b) true := by
  unfold laws_eqDisk.f
  exact Ev.bind (eqStringS_self a h1) (Ev.ite_pos rfl (Ev.bind (eqPutS_self b h2) (Ev.ite_pos rfl (Ev.rfl' fun _ => rfl))))

/-- When a disk is right. -/
def safeOk (a : List ByteArray) : Bool := a.all fun s => decide (s.size = 64)
theorem safeOk_cons (s : ByteArray) (r : List ByteArray) : safeOk (s :: r) = (decide (s.size = 64) && safeOk r) := rfl
def putOk (p : S64) : Bool := (decide (0 ≤ p.f0) && decide (p.f0 ≤ 129)) && decide (p.f1.size = 64)
def diskOk (a : List ByteArray) (b : List S64) : Bool := (decide (a.length = 130) && decide (b.length ≤ 200)) && (safeOk a && b.all putOk)
theorem spec_sector (x : Int) : spec_l15Sector.f x = some (decide (0 ≤ x) && decide (x ≤ 129)) := by
  unfold spec_l15Sector.f spec_l1In.f
  by_cases h : x ≥ 0
  · rw [if_pos h]; simp [h]
  · rw [if_neg h]; simp [show ¬ 0 ≤ x from h]
theorem impl_sector (x : Int) : impl_isSector.f x = some (decide (0 ≤ x) && decide (x ≤ 129)) := by
  unfold impl_isSector.f impl_inRange.f
  by_cases h : x ≥ 0
  · rw [if_pos h]; simp [h]
  · rw [if_neg h]; simp [show ¬ 0 ≤ x from h]
theorem spec_Ok_l1 (a : List ByteArray) (b : List S64) (hl : b.length < 1099511627776) : ∀ (d i : Nat), i + d = b.length → Ev (fun k => spec_DiskOk.l1 k (i : Int) a b) ((b.drop i).all putOk) := by
  intro d
  induction d with
  | zero =>
    intro i hi
    rw [List.drop_eq_nil_of_le (by omega)]
    exact Ev.stop fun k => by simp only [spec_DiskOk.l1]; rw [if_neg (by omega)]; rfl
  | succ d ih =>
    intro i hi
    have hg : rd_T64 b (i : Int) = b[i] := getD_eq _ b i (by omega)
    rw [List.drop_eq_getElem_cons (by omega), List.all_cons]
    cases h : putOk b[i] with
    | true =>
      rw [Bool.true_and]
      refine Ev.step (f := fun k => spec_DiskOk.l1 k ((i + 1 : Nat) : Int) a b) (fun k => ?_) (ih (i + 1) (by omega))
      simp only [spec_DiskOk.l1]
      unfold putOk at h
      simp only [Bool.and_eq_true, decide_eq_true_eq] at h
      rw [if_pos (by omega), if_pos (by omega), hg, spec_sector]
      simp only [Option.bind_some]
      rw [if_pos (by simp [h.1]), if_pos (by omega), w64_nat i (by omega)]
    | false =>
      refine Ev.stop fun k => ?_
      simp only [spec_DiskOk.l1]
      rw [if_pos (by omega), if_pos (by omega), hg, spec_sector]
      simp only [Option.bind_some, Bool.false_and]
      unfold putOk at h
      by_cases h1 : (decide (0 ≤ b[i].f0) && decide (b[i].f0 ≤ 129)) = true
      · rw [if_pos h1]
        rw [h1, Bool.true_and, decide_eq_false_iff_not] at h
        rw [if_neg (by omega)]
      · rw [if_neg h1]
theorem spec_Ok_l0 (a : List ByteArray) (b : List S64) (ha : a.length < 1099511627776) (hl : b.length < 1099511627776) : ∀ (d i : Nat), i + d = a.length → Ev (fun k => spec_DiskOk.l0 k (i : Int) a b) (safeOk (a.drop i) && b.all putOk) := by
  intro d
  induction d with
  | zero =>
    intro i hi
    rw [List.drop_eq_nil_of_le (by omega)]
    refine Ev.step (f := fun k => spec_DiskOk.l1 k ((0 : Nat) : Int) a b) (fun k => ?_) (by simpa [safeOk] using spec_Ok_l1 a b hl b.length 0 (by omega))
    simp only [spec_DiskOk.l0]; rw [if_neg (by omega)]; rfl
  | succ d ih =>
    intro i hi
    rw [List.drop_eq_getElem_cons (by omega)]
    by_cases h : a[i].size = 64
    · rw [show safeOk (a[i] :: a.drop (i + 1)) = safeOk (a.drop (i + 1)) from by rw [safeOk_cons, decide_eq_true h, Bool.true_and]]
      refine Ev.step (f := fun k => spec_DiskOk.l0 k ((i + 1 : Nat) : Int) a b) (fun k => ?_) (ih (i + 1) (by omega))
      simp only [spec_DiskOk.l0]
      rw [if_pos (by omega), if_pos (by omega), rdOf_eq _ a i (by omega), if_pos (by omega), w64_nat i (by omega)]
    · rw [show safeOk (a[i] :: a.drop (i + 1)) = false from by rw [safeOk_cons, decide_eq_false h, Bool.false_and]]
      refine Ev.stop fun k => ?_
      simp only [spec_DiskOk.l0]
      rw [if_pos (by omega), if_pos (by omega), rdOf_eq _ a i (by omega), if_neg (by omega)]
      rfl
theorem spec_DiskOk_ev (a : List ByteArray) (b : List S64) (ha : a.length < 1099511627776) (hl : b.length < 1099511627776) : Ev (fun k => spec_DiskOk.f k a b) (diskOk a b) := by
  unfold spec_DiskOk.f
  by_cases h1 : a.length = 130
  · refine Ev.ite_pos (by omega) (Ev.shift ?_)
    simp only [spec_DiskOk.j0]
    by_cases h2 : b.length ≤ 200
    · refine Ev.ite_neg (by simp; omega) ?_
      rw [show diskOk a b = (safeOk (a.drop 0) && b.all putOk) from by simp [diskOk, h1, h2]]
      exact spec_Ok_l0 a b ha hl a.length 0 (by omega)
    · exact Ev.ite_pos (by simp; omega) (Ev.rfl' fun _ => by simp [diskOk, h2])
  · refine Ev.ite_neg (by omega) (Ev.shift ?_)
    simp only [spec_DiskOk.j0]
    exact Ev.ite_pos trivial (Ev.rfl' fun _ => by simp [diskOk, h1])
theorem impl_Ok_l1 (a : List ByteArray) (b : List S64) (hl : b.length < 1099511627776) : ∀ (d i : Nat), i + d = b.length → Ev (fun k => impl_DiskOk.l1 k b (b.length : Int) (i : Int) a b) ((b.drop i).all putOk && (decide (a.length = 130) && decide (b.length ≤ 200))) := by
  intro d
  induction d with
  | zero =>
    intro i hi
    rw [List.drop_eq_nil_of_le (by omega)]
    refine Ev.stop fun k => ?_
    simp only [impl_DiskOk.l1]
    rw [if_neg (by omega)]
    by_cases h1 : a.length = 130
    · rw [if_pos (by omega)]
      have : decide ((b.length : Int) ≤ 200) = decide (b.length ≤ 200) := by rw [decide_eq_decide]; omega
      simp [h1, this]
    · rw [if_neg (by omega)]; simp [h1]
  | succ d ih =>
    intro i hi
    have hg : rd_T64 b (i : Int) = b[i] := getD_eq _ b i (by omega)
    rw [List.drop_eq_getElem_cons (by omega), List.all_cons]
    cases h : putOk b[i] with
    | true =>
      rw [Bool.true_and]
      refine Ev.step (f := fun k => impl_DiskOk.l1 k b (b.length : Int) ((i + 1 : Nat) : Int) a b) (fun k => ?_) (ih (i + 1) (by omega))
      simp only [impl_DiskOk.l1]
      unfold putOk at h
      simp only [Bool.and_eq_true, decide_eq_true_eq] at h
      rw [if_pos (by omega), if_pos (by omega), if_pos (by omega), hg, impl_sector]
      simp only [Option.bind_some]
      rw [if_pos (by simp [h.1]), if_pos (by omega), w64_nat i (by omega)]
    | false =>
      refine Ev.stop fun k => ?_
      simp only [impl_DiskOk.l1]
      rw [if_pos (by omega), if_pos (by omega), if_pos (by omega), hg, impl_sector]
      simp only [Option.bind_some, Bool.false_and]
      unfold putOk at h
      by_cases h1 : (decide (0 ≤ b[i].f0) && decide (b[i].f0 ≤ 129)) = true
      · rw [if_pos h1]
        rw [h1, Bool.true_and, decide_eq_false_iff_not] at h
        rw [if_neg (by omega)]
      · rw [if_neg h1]
theorem impl_Ok_l0 (a : List ByteArray) (b : List S64) (ha : a.length < 1099511627776) (hl : b.length < 1099511627776) : ∀ (d i : Nat), i + d = a.length → Ev (fun k => impl_DiskOk.l0 k a (a.length : Int) (i : Int) a b) (safeOk (a.drop i) && (b.all putOk && (decide (a.length = 130) && decide (b.length ≤ 200)))) := by
  intro d
  induction d with
  | zero =>
    intro i hi
    rw [List.drop_eq_nil_of_le (by omega)]
    refine Ev.step (f := fun k => impl_DiskOk.l1 k b (b.length : Int) ((0 : Nat) : Int) a b) (fun k => ?_) (by simpa [safeOk] using impl_Ok_l1 a b hl b.length 0 (by omega))
    simp only [impl_DiskOk.l0]; rw [if_neg (by omega)]; rfl
  | succ d ih =>
    intro i hi
    rw [List.drop_eq_getElem_cons (by omega)]
    by_cases h : a[i].size = 64
    · rw [show safeOk (a[i] :: a.drop (i + 1)) = safeOk (a.drop (i + 1)) from by rw [safeOk_cons, decide_eq_true h, Bool.true_and]]
      refine Ev.step (f := fun k => impl_DiskOk.l0 k a (a.length : Int) ((i + 1 : Nat) : Int) a b) (fun k => ?_) (ih (i + 1) (by omega))
      simp only [impl_DiskOk.l0]
      rw [if_pos (by omega), if_pos (by omega), if_pos (by omega), rdOf_eq _ a i (by omega), if_pos (by omega), w64_nat i (by omega)]
    · rw [show safeOk (a[i] :: a.drop (i + 1)) = false from by rw [safeOk_cons, decide_eq_false h, Bool.false_and]]
      refine Ev.stop fun k => ?_
      simp only [impl_DiskOk.l0]
      rw [if_pos (by omega), if_pos (by omega), if_pos (by omega), rdOf_eq _ a i (by omega), if_neg (by omega)]
      rfl
theorem impl_DiskOk_ev (a : List ByteArray) (b : List S64) (ha : a.length < 1099511627776) (hl : b.length < 1099511627776) : Ev (fun k => impl_DiskOk.f k a b) (diskOk a b) := by
  unfold impl_DiskOk.f
  have := impl_Ok_l0 a b ha hl a.length 0 (by omega)
  rw [show diskOk a b = (safeOk (a.drop 0) && (b.all putOk && (decide (a.length = 130) && decide (b.length ≤ 200)))) from by
    simp only [diskOk, List.drop_zero]
    cases safeOk a <;> cases b.all putOk <;> cases decide (a.length = 130) <;> cases decide (b.length ≤ 200) <;> rfl]
  exact this
end Go.Proofs.Ytbmfhhbifmgikaa.P

namespace Go.Proofs.Ytbmfhhbifmgikaa.Pure
open Go.RowKit Go.Proofs.YtbmfhhbifmgikaaW.PrintWords Go.Proofs.Ytbmfhhbifmgikaa.G Go.Proofs.Ytbmfhhbifmgikaa.P
/-- The same words in both. -/
theorem of_sector (a : List ByteArray) (b : List S64) (x : Int) : ∀ (k : Nat) (i : Int), spec_l15Of.l0 k x i a b = impl_Disk_sector.l0 k x i a b := by
  intro k
  induction k with
  | zero => exact fun _ => rfl
  | succ k ih => exact fun i => by simp only [spec_l15Of.l0, impl_Disk_sector.l0, ih]
theorem sector_l0 (a : List ByteArray) (b : List S64) (x : Int) (h0 : 0 ≤ x) (hx : x < a.length) (hb : b.length < 1099511627776) : ∀ (i : Nat), i ≤ b.length → ∃ r, Ev (fun k => impl_Disk_sector.l0 k x ((i : Int) - 1) a b) r := by
  intro i
  induction i with
  | zero =>
    intro _
    exact ⟨_, Ev.stop fun k => by simp only [impl_Disk_sector.l0]; rw [if_neg (by omega), if_pos h0, if_pos hx]⟩
  | succ i ih =>
    intro hi
    by_cases h : (rd_T64 b (((i + 1 : Nat) : Int) - 1)).f0 = x
    · exact ⟨_, Ev.stop fun k => by simp only [impl_Disk_sector.l0]; rw [if_pos (by omega), if_pos (by omega), if_pos (by omega), if_pos h]⟩
    · obtain ⟨r, hr⟩ := ih (by omega)
      refine ⟨r, Ev.step (f := fun k => impl_Disk_sector.l0 k x ((i : Int) - 1) a b) (fun k => ?_) hr⟩
      simp only [impl_Disk_sector.l0]
      rw [if_pos (by omega), if_pos (by omega), if_pos (by omega), if_neg h, w64 (by omega) (by omega)]
      rw [show (((i + 1 : Nat) : Int) - 1 - 1) = (i : Int) - 1 from by omega]
theorem sector_ev (a : List ByteArray) (b : List S64) (x : Int) (h0 : 0 ≤ x) (hx : x < a.length) (hb : b.length < 1099511627776) : ∃ r, Ev (fun k => impl_Disk_sector.f k a b x) r ∧ Ev (fun k => spec_l15Of.f k a b x) r := by
  obtain ⟨r, hr⟩ := sector_l0 a b x h0 hx hb b.length (Nat.le_refl _)
  rw [← w64 (x := (b.length : Int) - 1) (by omega) (by omega)] at hr
  exact ⟨r, hr, Ev.congr (fun k => of_sector a b x k _) hr⟩
/-- What a look at a sector says, and that both say it. -/
theorem sectorOf_ev (a : List ByteArray) (b : List S64) (x : Int) (ha : a.length < 1099511627776) (hb : b.length < 1099511627776) : ∃ r, Ev (fun k => impl_SectorOf.f k a b x) r ∧ Ev (fun k => spec_SectorOf.f k a b x) r := by
  unfold impl_SectorOf.f spec_SectorOf.f
  have hsp := spec_DiskOk_ev a b ha hb
  have him := impl_DiskOk_ev a b ha hb
  cases hd : diskOk a b with
  | false =>
    rw [hd] at hsp him
    refine ⟨((⟨#[]⟩ : ByteArray), false), Ev.pre (impl_sector x) ?_, Ev.bind hsp (Ev.ite_neg (by simp) (Ev.rfl' fun _ => rfl))⟩
    cases h : decide (0 ≤ x) && decide (x ≤ 129) with
    | false => exact Ev.ite_neg (by simp) (Ev.rfl' fun _ => rfl)
    | true => exact Ev.ite_pos rfl (Ev.bind him (Ev.ite_neg (by simp) (Ev.rfl' fun _ => rfl)))
  | true =>
    rw [hd] at hsp him
    cases h : decide (0 ≤ x) && decide (x ≤ 129) with
    | false =>
      refine ⟨((⟨#[]⟩ : ByteArray), false), Ev.pre ((impl_sector x).trans (by rw [h])) (Ev.ite_neg (by simp) (Ev.rfl' fun _ => rfl)), Ev.bind hsp (Ev.ite_pos rfl (Ev.pre ((spec_sector x).trans (by rw [h])) (Ev.ite_neg (by simp) (Ev.rfl' fun _ => rfl))))⟩
    | true =>
      simp only [Bool.and_eq_true, decide_eq_true_eq] at h
      have hl : a.length = 130 := by
        simp only [diskOk, Bool.and_eq_true, decide_eq_true_eq] at hd
        exact hd.1.1
      obtain ⟨r, h1, h2⟩ := sector_ev a b x h.1 (by omega) hb
      have hq : (decide (0 ≤ x) && decide (x ≤ 129)) = true := by simp [h.1, h.2]
      exact ⟨(r, true), Ev.pre ((impl_sector x).trans (by rw [hq])) (Ev.ite_pos rfl (Ev.bind him (Ev.ite_pos rfl (Ev.bind h1 (Ev.rfl' fun _ => rfl))))), Ev.bind hsp (Ev.ite_pos rfl (Ev.pre ((spec_sector x).trans (by rw [hq])) (Ev.ite_pos rfl (Ev.bind h2 (Ev.rfl' fun _ => rfl)))))⟩
theorem FnExactSectorOf : laws_FnExactSectorOf.Pure := by
  intro a b x ha hb hx
  refine Ev.rounds (r := true) ?_
  unfold laws_FnExactSectorOf.f
  obtain ⟨r, h1, h2⟩ := szDisk_ev a b ha hb
  refine Ev.bind h1 ?_
  by_cases hr : r < 0
  · exact Ev.ite_pos hr (Ev.rfl' fun _ => rfl)
  · have hs : Small a b := h2.resolve_left hr
    have h3 := hs.1
    have h4 := hs.2.2.1
    obtain ⟨q, h5, h6⟩ := sectorOf_ev a (b.map cvPut) x (by omega) (by simp; omega)
    refine Ev.ite_neg hr (Ev.bind (toDisk_ev a b hs) (Ev.bind h6 (Ev.bind (toDisk_ev a b hs) (Ev.bind h5 (Ev.ite_pos rfl (Ev.shift ?_))))))
    exact Ev.ite_neg (by simp) (Ev.bind (toDisk_ev a b hs) (Ev.bind (eqDisk_self _ _ (by simp; omega) (by simp; omega)) (Ev.ite_pos rfl (Ev.rfl' fun _ => rfl))))
end Go.Proofs.Ytbmfhhbifmgikaa.Pure

namespace Go.Proofs.Ytbmfhhbifmgikaa.B
open Go.RowKit Go.ChangeShapes Go.WideShapes Go.Proofs.YtbmfhhbifmgikaaW.PrintWords

/-- What reads as data of type t is of kind d, and keeps S. -/
def Opens {α : Type} (P : Program) (t : TypeId) (d : Kd α) (S : α → Prop) : Prop :=
  ∀ {H : Type} {enc : TypeId × Value → H} {w : World} {fuel : Nat} {cs : List Value} {x : DataW H × List MemPlace},
    DataW.trod enc P w 0 (fun _ => true) true fuel t cs = some x → (∀ n ∈ DataW.weights P t x.1, n ≤ reachBytes) → ∃ a, d.K w a cs ∧ S a
theorem opens_int {P : Program} {t : TypeId} {k : IntKind} (ht : P.underlying t = some (.int k)) : Opens P t (Kd.int k) (fun a => (Lit.int k a).wf = true) := by
  intro H enc w fuel cs x h _
  obtain ⟨n, rfl, _, hw⟩ := DataW.trod_int ht h
  exact ⟨n, rfl, hw⟩
theorem opens_bool {P : Program} {t : TypeId} (ht : P.underlying t = some .bool) : Opens P t Kd.bool (fun _ => True) := by
  intro H enc w fuel cs x h _
  obtain ⟨b, rfl, _⟩ := DataW.trod_bool ht h
  exact ⟨b, rfl, trivial⟩
theorem opens_string {P : Program} {t : TypeId} (ht : P.underlying t = some .string) : Opens P t Kd.string (fun a => a.size ≤ 140737488351232) := by
  intro H enc w fuel cs x h hw
  obtain ⟨s, rfl, hx, _⟩ := DataW.trod_string ht h
  subst hx
  refine ⟨s, rfl, ?_⟩
  have := hw s.data.toList.length (by simp [DataW.weights])
  rw [Array.length_toList] at this
  exact this
theorem weightsAll_mem {H : Type} {P : Program} {e : TypeId} : ∀ {l : List (DataW H)} {d : DataW H}, d ∈ l → ∀ n ∈ DataW.weights P e d, n ∈ DataW.weightsAll P e l
  | [], _, h, _, _ => by cases h
  | c :: l, d, h, n, hn => by
    rw [DataW.weightsAll, List.mem_append]
    rcases List.mem_cons.1 h with rfl | h
    · exact .inl hn
    · exact .inr (weightsAll_mem h n hn)
theorem opens_slice {α : Type} {P : Program} {t e : TypeId} {d : Kd α} {S : α → Prop} {B : Nat} (ht : P.underlying t = some (.slice e)) (hd : d.sz = P.cellsOf e) (hB : P.bytesOf e = B) (ho : Opens P e d S) :
    Opens P t (Kd.slice e d) (fun xs => xs.length * B ≤ 140737488351232 ∧ ∀ a ∈ xs, S a) := by
  intro H enc w fuel cs x h hw
  rcases DataW.trod_slice ht h with ⟨rfl, _⟩ | ⟨a, len, cap, elems, rest, n, rfl, rfl, rfl, _, hlc, hcm, hl, hel0, _, _⟩
  · exact ⟨[], ⟨none, 0, rfl, Nat.le_refl _, by exact ⟨rfl, by simp, fun h => absurd h (Nat.lt_irrefl _)⟩⟩, by simp, by simp⟩
  · have hsz : elems.length * B ≤ 140737488351232 := by
      have := hw (((elems.map (·.1)).length + (rest.map (·.1)).length) * P.bytesOf e) (by simp [DataW.weights, ht])
      rw [hB] at this
      simp only [List.length_map] at this
      exact Nat.le_trans (Nat.mul_le_mul_right _ (Nat.le_add_right _ _)) this
    have hel : ∀ i, i < len → ∃ (c : List Value) (b : α), w.cells? 0 (a.add (i * P.cellsOf e)) (P.cellsOf e) = some c ∧ d.K w b c ∧ S b := by
      intro i hi
      have hg := hel0 i hi
      rw [List.getElem?_eq_getElem (show i < elems.length by omega)] at hg
      obtain ⟨c, hc1, hc2⟩ := Option.bind_eq_some_iff.1 hg
      obtain ⟨b, hb1, hb2⟩ := ho hc2 (fun m hm => hw m (by
        simp only [DataW.weights, ht, List.mem_cons, List.mem_append]
        exact .inr (.inl (weightsAll_mem (List.mem_map_of_mem (List.getElem_mem (show i < elems.length by omega))) m hm))))
      exact ⟨c, b, hc1, hb1, hb2⟩
    have hch : ∀ m, m ≤ len → ∃ ys : List α, ys.length = m ∧ ∀ i, i < m → ∃ (c : List Value) (b : α), ys[i]? = some b ∧ w.cells? 0 (a.add (i * P.cellsOf e)) (P.cellsOf e) = some c ∧ d.K w b c ∧ S b := by
      intro m
      induction m with
      | zero => exact fun _ => ⟨[], rfl, fun i hi => absurd hi (Nat.not_lt_zero _)⟩
      | succ m ih =>
        intro hm
        obtain ⟨ys, h1, h2⟩ := ih (by omega)
        obtain ⟨c, b, h3, h4, h5⟩ := hel m (by omega)
        refine ⟨ys ++ [b], by simp [h1], fun i hi => ?_⟩
        by_cases him : i < m
        · obtain ⟨c', b', g1, g2⟩ := h2 i him
          exact ⟨c', b', by rw [List.getElem?_append_left (by omega)]; exact g1, g2⟩
        · obtain rfl : i = m := by omega
          exact ⟨c, b, by rw [List.getElem?_append_right (by omega)]; simp [h1], h3, h4, h5⟩
    obtain ⟨ys, hy1, hy2⟩ := hch len (Nat.le_refl _)
    refine ⟨ys, ⟨some a, cap, by rw [hy1], by omega, ⟨rfl, ?_, fun _ => ⟨a, rfl, fun j p hj => ?_⟩⟩⟩, by rw [hy1, ← hl]; exact hsz, fun b hb => ?_⟩
    · unfold maxLen at hcm; omega
    · have hjl : j < len := by rw [← hy1]; exact (List.getElem?_eq_some_iff.1 hj).1
      obtain ⟨c, b, g1, g2, g3, g4⟩ := hy2 j hjl
      rw [hj] at g1
      injection g1 with g1
      subst g1
      obtain ⟨_, g5, g6⟩ := World.cells?_some g2
      refine ⟨c, by rw [g5, hd], g3, fun i u hu => ?_⟩
      have hi : i < P.cellsOf e := by rw [← g5]; exact (List.getElem?_eq_some_iff.1 hu).1
      have := g6 i hi
      rw [hu] at this
      rw [← this, hd]
      congr 1
      unfold Addr.add
      by_cases h1 : j * P.cellsOf e = 0 <;> by_cases h2 : i = 0 <;> simp [h1, h2, Nat.add_assoc]
    · obtain ⟨i, hi⟩ := List.getElem?_of_mem hb
      have hil : i < len := by rw [← hy1]; exact (List.getElem?_eq_some_iff.1 hi).1
      obtain ⟨c, b', g1, g2, g3, g4⟩ := hy2 i hil
      rw [hi] at g1
      injection g1 with g1
      subst g1
      exact g4
/-- Fields in line, from a place on. -/
def OpensF {α : Type} (P : Program) (off : Nat) (fs : List Field) (d : Kd α) (S : α → Prop) : Prop :=
  ∀ {H : Type} {enc : TypeId × Value → H} {w : World} {fuel : Nat} {cs : List Value} {xs : List (DataW H × List MemPlace)}, xs.length = fs.length →
    (∀ (i : Nat) (f : Field), fs[i]? = some f → DataW.trod enc P w 0 (fun _ => true) true fuel f.type ((cs.drop f.offset).take (P.cellsOf f.type)) = xs[i]?) → cs.length = off + d.sz →
    (∀ n ∈ DataW.weightsEach P (fs.map (·.type)) (xs.map (·.1)), n ≤ reachBytes) → ∃ a, d.K w a (cs.drop off) ∧ S a
theorem opens_last {α : Type} {P : Program} {off : Nat} {f : Field} {d : Kd α} {S : α → Prop} (ho : Opens P f.type d S) (hf : f.offset = off) (hd : d.sz = P.cellsOf f.type) : OpensF P off [f] d S := by
  intro H enc w fuel cs xs hlen h hl hw
  match xs, hlen with
  | [x], _ =>
    have hx := h 0 f rfl
    obtain ⟨a, h1, h2⟩ := ho hx (fun n hn => hw n (by simp only [List.map_cons, List.map_nil, DataW.weightsEach, List.mem_append]; exact .inl hn))
    refine ⟨a, ?_, h2⟩
    rw [hf, List.take_of_length_le (by simp; omega)] at h1
    exact h1
theorem opens_next {α β : Type} {P : Program} {off : Nat} {f : Field} {fs : List Field} {d : Kd α} {d2 : Kd β} {S : α → Prop} {S2 : β → Prop} (ho : Opens P f.type d S) (hf : f.offset = off) (hd : d.sz = P.cellsOf f.type) (hr : OpensF P (off + d.sz) fs d2 S2) :
    OpensF P off (f :: fs) (Kd.pair d d2) (fun a => S a.1 ∧ S2 a.2) := by
  intro H enc w fuel cs xs hlen h hl hw
  have hl' : cs.length = off + (d.sz + d2.sz) := hl
  match xs, hlen with
  | x :: ys, hlen =>
    have hx := h 0 f rfl
    obtain ⟨a, h1, h2⟩ := ho hx (fun n hn => hw n (by simp only [List.map_cons, DataW.weightsEach, List.mem_append]; exact .inl hn))
    obtain ⟨b, h3, h4⟩ := hr (by simpa using hlen) (fun i g hg => h (i + 1) g (by simpa using hg)) (by omega) (fun n hn => hw n (by simp only [List.map_cons, DataW.weightsEach, List.mem_append]; exact .inr hn))
    rw [hf, ← hd] at h1
    refine ⟨(a, b), ⟨(cs.drop off).take d.sz, cs.drop (off + d.sz), ?_, h1, h3⟩, h2, h4⟩
    rw [← List.drop_drop, List.take_append_drop]
theorem opens_struct {α β : Type} {P : Program} {t : TypeId} {fs : Array Field} {d : Kd α} {S : α → Prop} (ht : P.underlying t = some (.struct fs)) (hd : d.sz = P.cellsOf t) (hf : OpensF P 0 fs.toList d S) (g : β → α) (gi : α → β) (hg : ∀ a, g (gi a) = a) :
    Opens P t (Kd.iso d g) (fun b => S (g b)) := by
  intro H enc w fuel cs x h hw
  obtain ⟨xs, n, rfl, rfl, hl, hlen, hi⟩ := DataW.trod_struct ht h
  obtain ⟨a, h1, h2⟩ := hf (xs := xs) (by simpa using hlen) (fun i f hf => hi i f (by simpa using hf)) (by rw [hl, hd]; omega) (fun n hn => hw n (by simpa only [DataW.weights, ht] using hn))
  exact ⟨gi a, by show d.K w (g (gi a)) cs; rw [hg]; simpa using h1, by show S (g (gi a)); rw [hg]; exact h2⟩
/-- An argument of a law, as a walk takes it. -/
theorem opens_arg {α H : Type} {enc : TypeId × Value → H} {P : Program} {w : World} {t : TypeId} {v : Value} {x : DataW H} {ps : List MemPlace} {ts : List TypeId} {ds : List (DataW H)} {j : Nat} {d : Kd α} {S : α → Prop} (ho : Opens P t d S)
    (hsz : (DataW.weightsEach P ts ds).all (· ≤ reachBytes) = true) (ht : ts[j]? = some t) (hd : ds[j]? = some x) (h : DataW.Trod enc P w 0 (fun _ => true) true t v x ps) : ∃ a, d.K w a v.cells.toList ∧ S a := by
  obtain ⟨fuel, hf⟩ := h
  refine ho hf (fun n hn => ?_)
  have := List.all_eq_true.1 hsz n (DataW.weights_mem_each ht hd n hn)
  simpa using this
end Go.Proofs.Ytbmfhhbifmgikaa.B

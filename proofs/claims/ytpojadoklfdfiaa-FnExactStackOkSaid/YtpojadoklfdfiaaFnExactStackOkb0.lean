/- The plain side of the law FnExactStackOk: what the twins come to, and that the law's twin answers true at every input of the statement's kind. -/
import Derived.Laws.BitsLemmas
import Derived.Test.YtpojadoklfdfiaaCorea0
import Derived.Test.YtpojadoklfdfiaaCorea1
import Derived.Test.YtpojadoklfdfiaaCorea2
import Derived.Test.YtpojadoklfdfiaaCorea3
import Derived.Test.YtpojadoklfdfiaaCorea4
import Derived.Test.YtpojadoklfdfiaaCoreb0
import Derived.Test.YtpojadoklfdfiaaFnExactStackOka0
import Derived.Test.YtpojadoklfdfiaaFnExactStackOka1

namespace Go.Proofs.Ytpojadoklfdfiaa.P
open Go.RowKit Go.Proofs.YtpojadoklfdfiaaW.PrintWords
set_option linter.unusedVariables false

theorem w64 {x : Int} (h0 : -9223372036854775808 ≤ x) (h1 : x ≤ 9223372036854775807) : wrap64 x = x := by unfold wrap64; omega
theorem w64_nat (i : Nat) (h : i < 9223372036854775807) : wrap64 ((i : Int) + 1) = ((i + 1 : Nat) : Int) := by rw [w64 (by omega) (by omega)]; omega
theorem take_set_succ {α : Type} (l x : List α) (i : Nat) (h : x.take i = l.take i) (hi : i < x.length) (hl : i < l.length) : (x.set i l[i]).take (i + 1) = l.take (i + 1) := by
 rw [List.take_succ_eq_append_getElem (by simpa using hi), List.take_succ_eq_append_getElem hl]
 rw [List.getElem_set_self, List.take_set_of_le (Nat.le_refl i), h]
theorem take_set_map {α β : Type} (f : α → β) (l : List α) (x : List β) (i : Nat) (h : x.take i = (l.take i).map f) (hi : i < x.length) (hl : i < l.length) : (x.set i (f l[i])).take (i + 1) = (l.take (i + 1)).map f := by
 rw [List.take_succ_eq_append_getElem (by simpa using hi), List.take_succ_eq_append_getElem hl]
 rw [List.getElem_set_self, List.take_set_of_le (Nat.le_refl i), h, List.map_append, List.map_cons, List.map_nil]
theorem rd_eq (l : List Int) (i : Nat) (h : i < l.length) : rd l (i : Int) = l[i] := by
 unfold rd; simp [List.getD_eq_getElem?_getD, List.getElem?_eq_getElem h]
theorem rdOf_eq {α : Type} (z : α) (l : List α) (i : Nat) (h : i < l.length) : rdOf z l (i : Int) = l[i] := by
 unfold rdOf; simp [List.getD_eq_getElem?_getD, List.getElem?_eq_getElem h]
theorem getD_eq {α : Type} (z : α) (l : List α) (i : Nat) (h : i < l.length) : l.getD (i : Int).toNat z = l[i] := by
 simp [List.getD_eq_getElem?_getD, List.getElem?_eq_getElem h]
theorem Ev.rfl' {α : Type} {g : Nat → Option α} {r : α} (h : ∀ k, g k = some r) : Ev g r := ⟨0, fun k _ => h k⟩
theorem Ev.ite_pos {α : Type} {c : Prop} [Decidable c] {g f : Nat → Option α} {r : α} (h : c) (k : Ev g r) : Ev (fun n => if c then g n else f n) r := Ev.congr (fun n => if_pos h) k
theorem Ev.ite_neg {α : Type} {c : Prop} [Decidable c] {g f : Nat → Option α} {r : α} (h : ¬ c) (k : Ev f r) : Ev (fun n => if c then g n else f n) r := Ev.congr (fun n => if_neg h) k
/-- One step of a loop that ends there. -/
theorem Ev.stop {α : Type} {g : Nat → Option α} {r : α} (h : ∀ k, g (k + 1) = some r) : Ev g r := ⟨1, fun k hk => by obtain ⟨m, rfl⟩ : ∃ m, k = m + 1 := ⟨k - 1, by omega⟩; exact h m⟩
/-- A function without rounds ahead. -/
theorem Ev.pre {α β : Type} {a : Option α} {x : α} {f : Nat → α → Option β} {r : β} (h : a = some x) (k : Ev (fun n => f n x) r) : Ev (fun n => a.bind (f n)) r := by
 subst h; exact k
/-- A round ahead. -/
theorem Ev.shift {α : Type} {g : Nat → Option α} {r : α} (h : Ev (fun k => g (k + 1)) r) : Ev g r := Ev.step (fun _ => rfl) h
theorem toList_data (s : ByteArray) : s.toList = s.data.toList := ByteArray.toList_eq s
theorem bytes_eq {a b : ByteArray} (h : a.toList = b.toList) : a = b := by
 rw [toList_data, toList_data] at h
 cases a; cases b; simp only [Array.toList_inj] at h; rw [h]
end Go.Proofs.Ytpojadoklfdfiaa.P

namespace Go.Proofs.Ytpojadoklfdfiaa.P
open Go.RowKit Go.Proofs.YtpojadoklfdfiaaW.PrintWords Go.Proofs.Ytpojadoklfdfiaa.G
set_option linter.unusedVariables false
set_option linter.unusedSimpArgs false

theorem wraps_i64 (n : Int) (h₀ : 0 ≤ n) (h₁ : n < 2 ^ 62) : IntKind.i64.wrap n = n := by rw [IntKind.wrap_i64]; omega
theorem and63_i64 (x : Int) (h0 : 0 ≤ x) (h1 : x < 2 ^ 62) : Go.bits .and .i64 x 63 = x % 64 := bits_mask .i64 62 (by decide) wraps_i64 6 (by decide) x h0 h1
theorem or_i64 (i : Nat) (x y : Int) (h0 : 0 ≤ x) (hm : x % 2 ^ i = 0) (h1 : x < 2 ^ 62) (h2 : 0 ≤ y) (h3 : y < 2 ^ i) (h4 : y < 2 ^ 62) : Go.bits .or .i64 x y = x + y := bits_join .i64 62 (by decide) wraps_i64 i x y h0 hm h1 h2 h3 h4

/-- Both say one thing. -/
def Agree {α : Type} (f g : Nat → Option α) : Prop := ∃ r, Ev f r ∧ Ev g r

/-- How many bytes the form has that a byte begins. -/
def form (b : Int) : Nat := if b < 128 then 1 else if 194 ≤ b ∧ b ≤ 223 then 2 else if 224 ≤ b ∧ b ≤ 239 then 3 else if 240 ≤ b ∧ b ≤ 244 then 4 else 0
def lowOf (f : Int) (k : Nat) : Int := if k = 1 then (if f = 224 then 160 else if f = 240 then 144 else 128) else 128
def highOf (f : Int) (k : Nat) : Int := if k = 1 then (if f = 237 then 159 else if f = 244 then 143 else 191) else 191
def fits (f : Int) (k : Nat) (b : Int) : Bool := decide (lowOf f k ≤ b) && decide (b ≤ highOf f k)
/-- How far the bytes behind the first one fit: 'd' may still come. -/
def cntF (l : List Int) (f : Int) : Nat → Nat → Nat
 | 0, k => k
 | d + 1, k => if k < l.length then (if fits f k (rd l k) = true then cntF l f d (k + 1) else k) else k
/-- The bits of those behind. -/
def valF (l : List Int) : Nat → Nat → Int → Int
 | 0, _, x => x
 | d + 1, j, x => valF l d (j + 1) (64 * x + rd l j - 128)
def baseOf (n : Nat) : Int := if n = 2 then 192 else if n = 3 then 224 else if n = 4 then 240 else 0
/-- The point that bytes begin with, and how many it takes. -/
def rp (l : List Int) : Int × Nat :=
 if form (rd l 0) = 0 then (65533, 1)
 else if cntF l (rd l 0) (form (rd l 0) - 1) 1 < form (rd l 0) then (65533, cntF l (rd l 0) (form (rd l 0) - 1) 1)
 else (valF l (form (rd l 0) - 1) 1 (rd l 0 - baseOf (form (rd l 0))), form (rd l 0))
def readAll : Nat → List Int → List Int
 | 0, _ => []
 | d + 1, l => if l = [] then [] else (rp l).1 :: readAll d (l.drop (rp l).2)

theorem form_le (b : Int) : form b ≤ 4 := by
 unfold form
 by_cases h1 : b < 128
 ·rw [if_pos h1]; omega
 ·rw [if_neg h1]
  by_cases h2 : 194 ≤ b ∧ b ≤ 223
  ·rw [if_pos h2]; omega
  ·rw [if_neg h2]
   by_cases h3 : 224 ≤ b ∧ b ≤ 239
   ·rw [if_pos h3]; omega
   ·rw [if_neg h3]
    by_cases h4 : 240 ≤ b ∧ b ≤ 244
    ·rw [if_pos h4]; omega
    ·rw [if_neg h4]; omega
theorem cntF_ge (l : List Int) (f : Int) : ∀ d k, k ≤ cntF l f d k := by
 intro d
 induction d with
 | zero => intro k; exact Nat.le_refl _
 | succ d ih =>
  intro k
  simp only [cntF]
  split
  ·split
   ·exact Nat.le_trans (Nat.le_succ k) (ih (k + 1))
   ·exact Nat.le_refl _
  ·exact Nat.le_refl _
theorem cntF_le (l : List Int) (f : Int) : ∀ d k, cntF l f d k ≤ k + d := by
 intro d
 induction d with
 | zero => intro k; exact Nat.le_refl _
 | succ d ih =>
  intro k
  simp only [cntF]
  split
  ·split
   ·have := ih (k + 1); omega
   ·omega
  ·omega
theorem cntF_len (l : List Int) (f : Int) : ∀ d k, k ≤ l.length → cntF l f d k ≤ l.length := by
 intro d
 induction d with
 | zero => intro k h; exact h
 | succ d ih =>
  intro k h
  simp only [cntF]
  split
  ·split
   ·exact ih (k + 1) (by omega)
   ·exact h
  ·exact h
theorem rp_pos (l : List Int) : 1 ≤ (rp l).2 := by
 unfold rp
 split
 ·exact Nat.le_refl _
 ·split
  ·exact cntF_ge _ _ _ _
  ·show 1 ≤ form (rd l 0); omega
theorem rp_len (l : List Int) (h : 0 < l.length) : (rp l).2 ≤ l.length := by
 unfold rp
 split
 ·exact h
 ·have h1 := cntF_len l (rd l 0) (form (rd l 0) - 1) 1 h
  split
  ·exact h1
  ·show form (rd l 0) ≤ l.length; omega
theorem readAll_more : ∀ d l, l.length ≤ d → ∀ e, readAll (d + e) l = readAll d l := by
 intro d
 induction d with
 | zero =>
  intro l h e
  have : l = [] := List.eq_nil_of_length_eq_zero (by omega)
  subst this
  cases e with
  | zero => rfl
  | succ e => simp [readAll]
 | succ d ih =>
  intro l h e
  by_cases hl : l = []
  ·subst hl
   rw [show d + 1 + e = (d + e) + 1 from by omega]; simp [readAll]
  ·rw [show d + 1 + e = (d + e) + 1 from by omega]
   simp only [readAll, if_neg hl]
   rw [ih _ (by have := rp_pos l; rw [List.length_drop]; omega) e]
theorem readAll_len : ∀ d l, (readAll d l).length ≤ d := by
 intro d
 induction d with
 | zero => intro l; exact Nat.le_refl _
 | succ d ih =>
  intro l
  simp only [readAll]
  split
  ·simp
  ·simpa using ih _
def Bytes (l : List Int) : Prop := ∀ i : Nat, i < l.length → 0 ≤ rd l i ∧ rd l i < 256
theorem rd_nat (l : List Int) (i : Nat) : rd l (i : Int) = l.getD i 0 := by unfold rd; rw [Int.toNat_natCast]
theorem rd_drop (l : List Int) (m i : Nat) : rd (l.drop m) (i : Int) = rd l ((m + i : Nat) : Int) := by
 rw [rd_nat, rd_nat, List.getD_eq_getElem?_getD, List.getD_eq_getElem?_getD, List.getElem?_drop]
theorem Bytes.drop {l : List Int} (h : Bytes l) (m : Nat) : Bytes (l.drop m) := by
 intro i hi
 rw [rd_drop]
 rw [List.length_drop] at hi
 exact h (m + i) (by omega)

/-! The program's reading -/
theorem inRange_eq (x a b : Int) : zq44.f x a b = some (decide (a ≤ x) && decide (x ≤ b)) := by
 unfold zq44.f
 by_cases h : x ≥ a
 ·rw [if_pos h]; simp [h]
 ·rw [if_neg h]; simp [show ¬ a ≤ x from h]
theorem l1In_eq (x a b : Int) : zq17.f x a b = some (decide (a ≤ x) && decide (x ≤ b)) := by
 unfold zq17.f
 by_cases h : x ≥ a
 ·rw [if_pos h]; simp [h]
 ·rw [if_neg h]; simp [show ¬ a ≤ x from h]
theorem formOf_ev (b : Int) (h0 : 0 ≤ b) (h1 : b < 256) : Ev (fun k => zq38.f k b) ((form b : Int), if form b = 0 then 0 else b - baseOf (form b)) := by
 unfold zq38.f
 by_cases c1 : b < 128
 ·rw [show form b = 1 from by unfold form; rw [if_pos c1]]
  exact Ev.ite_pos c1 (Ev.rfl' fun _ => by rw [w64 (by omega) (by omega)]; simp [baseOf])
 ·refine Ev.ite_neg c1 ?_
  by_cases c2 : b ≥ 194
  ·refine Ev.ite_pos c2 (Ev.shift ?_)
   simp only [zq38.j0]
   by_cases c3 : b ≤ 223
   ·rw [show form b = 2 from by unfold form; rw [if_neg c1, if_pos ⟨c2, c3⟩]]
    exact Ev.ite_pos (by simp [c3]) (Ev.rfl' fun _ => by rw [u8_and31 _ h0 h1, w64 (by omega) (by omega)]; simp [baseOf]; omega)
   ·refine Ev.ite_neg (by simp [c3]) ?_
    by_cases c4 : b ≥ 224
    ·refine Ev.ite_pos c4 (Ev.shift ?_)
     simp only [zq38.j1]
     by_cases c5 : b ≤ 239
     ·rw [show form b = 3 from by unfold form; rw [if_neg c1, if_neg (by omega), if_pos ⟨c4, c5⟩]]
      exact Ev.ite_pos (by simp [c5]) (Ev.rfl' fun _ => by rw [u8_and15 _ h0 h1, w64 (by omega) (by omega)]; simp [baseOf]; omega)
     ·refine Ev.ite_neg (by simp [c5]) (Ev.ite_pos (by omega) ?_)
      by_cases c6 : b ≤ 244
      ·rw [show form b = 4 from by unfold form; rw [if_neg c1, if_neg (by omega), if_neg (by omega), if_pos ⟨by omega, c6⟩]]
       exact Ev.ite_pos c6 (Ev.rfl' fun _ => by rw [u8_and7 _ h0 h1, w64 (by omega) (by omega)]; simp [baseOf]; omega)
      ·rw [show form b = 0 from by unfold form; rw [if_neg c1, if_neg (by omega), if_neg (by omega), if_neg (by omega)]]
       exact Ev.ite_neg c6 (Ev.rfl' fun _ => by simp)
    ·omega
  ·refine Ev.ite_neg c2 (Ev.shift ?_)
   simp only [zq38.j0]
   rw [show form b = 0 from by unfold form; rw [if_neg c1, if_neg (by omega), if_neg (by omega), if_neg (by omega)]]
   refine Ev.ite_neg (by simp) (Ev.ite_neg (by omega) (Ev.shift ?_))
   simp only [zq38.j1]
   exact Ev.ite_neg (by simp) (Ev.ite_neg (by omega) (Ev.rfl' fun _ => by simp))
theorem boundsOf_eq (f : Int) : impl_boundsOf.f f = some (lowOf f 1, highOf f 1) := by
 unfold impl_boundsOf.f lowOf highOf
 by_cases c1 : f = 224
 ·subst c1; rfl
 ·rw [if_neg c1]
  by_cases c2 : f = 237
  ·subst c2; rfl
  ·rw [if_neg c2]
   by_cases c3 : f = 240
   ·subst c3; rfl
   ·rw [if_neg c3]
    by_cases c4 : f = 244
    ·subst c4; rfl
    ·simp [c1, c2, c3, c4]
def bd : Nat → Int
 | 0 => 268435456
 | 1 => 2097152
 | 2 => 16384
 | _ => 256
theorem low_high (f : Int) (k : Nat) : 128 ≤ lowOf f k ∧ highOf f k ≤ 191 := by
 unfold lowOf highOf
 constructor <;> (repeat' split) <;> omega
theorem readPoint_l0 (l : List Int) (hb : Bytes l) (f : Int) (n : Nat) (hn : n ≤ 4) : ∀ (d i : Nat) (x lo hi : Int), i + d = n → 1 ≤ i → i ≤ l.length → 0 ≤ x → x < bd d → lo = lowOf f i → hi = highOf f i →
  Ev (fun k => zq42.l0 k l (n : Int) x lo hi (i : Int)) (if cntF l f d i < n then (65533, (cntF l f d i : Int)) else (valF l d i x, (n : Int))) := by
 intro d
 induction d with
 | zero =>
  intro i x lo hi hd h1 hl h0 hx e1 e2
  rw [if_neg (show ¬ cntF l f 0 i < n from by simp only [cntF]; omega)]
  refine Ev.stop fun k => ?_
  simp only [zq42.l0, valF]
  rw [if_neg (by omega)]
 | succ d ih =>
  intro i x lo hi hd h1 hl h0 hx e1 e2
  subst e1 e2
  have hlh := low_high f i
  by_cases c1 : i < l.length
  ·have hbi := hb i c1
   by_cases c2 : rd l i < lowOf f i
   ·rw [show cntF l f (d + 1) i = i from by simp only [cntF]; rw [if_pos c1, if_neg (by simp [fits]; omega)], if_pos (by omega)]
    refine Ev.stop fun k => ?_
    simp only [zq42.l0]
    rw [if_pos (by omega), if_neg (by omega), if_pos (by omega), if_pos (by omega), if_pos c2]
   ·by_cases c3 : rd l i > highOf f i
    ·rw [show cntF l f (d + 1) i = i from by simp only [cntF]; rw [if_pos c1, if_neg (by simp [fits]; omega)], if_pos (by omega)]
     refine Ev.stop fun k => ?_
     simp only [zq42.l0]
     rw [if_pos (by omega), if_neg (by omega), if_pos (by omega), if_pos (by omega), if_neg c2, if_pos c3]
    ·have hc : cntF l f (d + 1) i = cntF l f d (i + 1) := by simp only [cntF]; rw [if_pos c1, if_pos (by simp [fits]; omega)]
     rw [hc, show valF l (d + 1) i x = valF l d (i + 1) (64 * x + rd l i - 128) from rfl]
     have hd2 : d ≤ 2 := by omega
     have hxs : x < 2097152 := by rcases d with _ | _ | _ | d <;> simp only [bd] at hx <;> omega
     have hx' : 64 * x + rd l i - 128 < bd d := by rcases d with _ | _ | _ | d <;> simp only [bd] at hx ⊢ <;> omega
     refine Ev.step (f := fun k => zq42.l0 k l (n : Int) (64 * x + rd l i - 128) 128 191 ((i + 1 : Nat) : Int)) (fun k => ?_) (ih (i + 1) _ 128 191 (by omega) (by omega) (by omega) (by omega) hx' (by unfold lowOf; rw [if_neg (by omega)]) (by unfold highOf; rw [if_neg (by omega)]))
     simp only [zq42.l0]
     rw [if_pos (by omega), if_neg (by omega), if_pos (by omega), if_pos (by omega), if_neg c2, if_neg c3]
     rw [u8_and63 _ hbi.1 hbi.2, w64 (x := x * 64) (by omega) (by omega), w64 (x := rd l i % 64) (by omega) (by omega), or_i64 6 _ _ (by omega) (by omega) (by omega) (by omega) (by omega) (by omega), w64_nat i (by omega)]
     rw [show x * 64 + rd l i % 64 = 64 * x + rd l i - 128 from by omega]
  ·rw [show cntF l f (d + 1) i = i from by simp only [cntF]; rw [if_neg c1], if_pos (by omega)]
   refine Ev.stop fun k => ?_
   simp only [zq42.l0]
   rw [if_pos (by omega), if_pos (by omega)]
theorem form_base (b : Int) (h0 : 0 ≤ b) (h1 : b < 256) (hf : form b ≠ 0) : 0 ≤ b - baseOf (form b) ∧ b - baseOf (form b) < bd (form b - 1) := by
 unfold form at *
 by_cases c1 : b < 128
 ·simp only [if_pos c1, baseOf, bd]; simp; omega
 ·by_cases c2 : 194 ≤ b ∧ b ≤ 223
  ·simp only [if_neg c1, if_pos c2, baseOf, bd]; simp; omega
  ·by_cases c3 : 224 ≤ b ∧ b ≤ 239
   ·simp only [if_neg c1, if_neg c2, if_pos c3, baseOf, bd]; simp; omega
   ·by_cases c4 : 240 ≤ b ∧ b ≤ 244
    ·simp only [if_neg c1, if_neg c2, if_neg c3, if_pos c4, baseOf, bd]; simp; omega
    ·simp [c1, c2, c3, c4] at hf
theorem readPoint_ev (l : List Int) (hb : Bytes l) (hl : 0 < l.length) : Ev (fun k => zq42.f k l) ((rp l).1, ((rp l).2 : Int)) := by
 have h0 := hb 0 hl
 unfold zq42.f
 refine Ev.ite_pos (by omega) (Ev.bind (formOf_ev (rd l 0) h0.1 h0.2) ?_)
 by_cases hf : form (rd l 0) = 0
 ·refine Ev.ite_pos (by simp [hf]) (Ev.rfl' fun _ => ?_)
  unfold rp; rw [if_pos hf]; rfl
 ·refine Ev.ite_neg (by simp; omega) (Ev.pre (boundsOf_eq _) ?_)
  have hB := form_base (rd l 0) h0.1 h0.2 hf
  have := readPoint_l0 l hb (rd l 0) (form (rd l 0)) (form_le _) (form (rd l 0) - 1) 1 (rd l 0 - baseOf (form (rd l 0))) _ _ (by omega) (Nat.le_refl _) hl hB.1 hB.2 rfl rfl
  simp only [if_neg hf]
  refine Ev.congr (fun _ => rfl) (r := _) (f := fun k => zq42.l0 k l (form (rd l 0) : Int) (rd l 0 - baseOf (form (rd l 0))) (lowOf (rd l 0) 1) (highOf (rd l 0) 1) ((1 : Nat) : Int)) ?_
  have he : ((rp l).1, ((rp l).2 : Int)) = (if cntF l (rd l 0) (form (rd l 0) - 1) 1 < form (rd l 0) then (65533, (cntF l (rd l 0) (form (rd l 0) - 1) 1 : Int)) else (valF l (form (rd l 0) - 1) 1 (rd l 0 - baseOf (form (rd l 0))), (form (rd l 0) : Int))) := by
   unfold rp
   rw [if_neg hf]
   split <;> rfl
  rw [he]
  exact this
theorem implRead_l0 : ∀ (d : Nat) (l acc : List Int), Bytes l → l.length ≤ d → acc.length + d < 17592186044416 → Ev (fun k => zq64.l0 k l acc) (acc ++ readAll d l) := by
 intro d
 induction d with
 | zero =>
  intro l acc hb hl ha
  have : l = [] := List.eq_nil_of_length_eq_zero (by omega)
  subst this
  exact Ev.stop fun k => by simp [zq64.l0, readAll]
 | succ d ih =>
  intro l acc hb hl ha
  by_cases h0 : 0 < l.length
  ·have hne : l ≠ [] := by intro e; subst e; simp at h0
   simp only [readAll, if_neg hne]
   refine Ev.shift ?_
   simp only [zq64.l0]
   have h1 := rp_pos l
   have h2 := rp_len l h0
   refine Ev.ite_pos h0 (Ev.bind (readPoint_ev l hb h0) (Ev.ite_pos (by omega) (Ev.ite_pos (by first | omega | (simp; done) | (simp; omega)) (Ev.ite_pos (by first | omega | (simp; done) | (simp; omega)) ?_))))
   simp only [Int.toNat_natCast]
   rw [show acc ++ (rp l).1 :: readAll d (l.drop (rp l).2) = (acc ++ [(rp l).1]) ++ readAll d (l.drop (rp l).2) from by simp]
   exact ih _ _ (hb.drop _) (by rw [List.length_drop]; omega) (by simp; omega)
  ·have : l = [] := List.eq_nil_of_length_eq_zero (by omega)
   subst this
   exact Ev.stop fun k => by simp [zq64.l0, readAll]

/-! The reference's reading -/
theorem forms_eq (b : Int) : spec_l1Forms.f b = some (form b : Int) := by
 unfold spec_l1Forms.f form
 simp only [l1In_eq, Option.bind_some]
 by_cases c1 : b < 128
 ·simp [c1]
 ·by_cases c2 : 194 ≤ b ∧ b ≤ 223
  ·simp [c1, c2]
  ·have c2' : (decide (194 ≤ b) && decide (b ≤ 223)) = false := by simp; omega
   by_cases c3 : 224 ≤ b ∧ b ≤ 239
   ·simp [c1, c2, c2', c3]
   ·have c3' : (decide (224 ≤ b) && decide (b ≤ 239)) = false := by simp; omega
    by_cases c4 : 240 ≤ b ∧ b ≤ 244
    ·simp [c1, c2, c2', c3, c3', c4]
    ·have c4' : (decide (240 ≤ b) && decide (b ≤ 244)) = false := by simp; omega
     simp [c1, c2, c2', c3, c3', c4, c4']
theorem fits_eq (f : Int) (k : Nat) (b : Int) : spec_l1Fits.f f (k : Int) b = some (fits f k b) := by
 unfold spec_l1Fits.f fits lowOf highOf
 simp only [l1In_eq, Option.bind_some]
 by_cases c0 : k = 1
 ·subst c0
  by_cases c1 : f = 224
  ·subst c1; rfl
  ·by_cases c2 : f = 237
   ·subst c2; rfl
   ·by_cases c3 : f = 240
    ·subst c3; rfl
    ·by_cases c4 : f = 244
     ·subst c4; rfl
     ·simp [c1, c2, c3, c4]
 ·rw [if_neg (by omega)]
  simp [c0]
/-- A point of a form that is whole. -/
theorem l1Read_l2 (x0 acc : List Int) (at_ : Nat) (n : Nat) (hn : n ≤ 4) (hb : Bytes x0) (hl : at_ + n ≤ x0.length) (hs : x0.length ≤ 1000000) (ha : acc.length < 17592186044416) : ∀ (d j : Nat) (x : Int), j + d = n → 1 ≤ j → (∀ i : Nat, j ≤ i → i < n → 128 ≤ rd (x0.drop at_) (i : Int) ∧ rd (x0.drop at_) (i : Int) ≤ 191) → 0 ≤ x → x < bd d →
  ∀ r, Ev (fun k => zq12.l0 k x0 (acc ++ [valF (x0.drop at_) d j x]) ((at_ + n : Nat) : Int)) r → Ev (fun k => zq12.l2 k x0 acc (at_ : Int) (n : Int) x (j : Int)) r := by
 intro d
 induction d with
 | zero =>
  intro j x hd h1 hf h0 hx r hr
  refine Ev.step (fun k => ?_) hr
  simp only [zq12.l2, valF]
  rw [if_neg (by omega), if_pos ha, w64 (by omega) (by omega)]
  simp
 | succ d ih =>
  intro j x hd h1 hf h0 hx r hr
  have hd2 : d ≤ 2 := by omega
  have hj := hf j (Nat.le_refl _) (by omega)
  rw [rd_drop] at hj
  have hbj := hb (at_ + j) (by omega)
  have hxs : x < 2097152 := by rcases d with _ | _ | _ | d <;> simp only [bd] at hx <;> omega
  have hv : 64 * x + rd (x0.drop at_) (j : Int) - 128 = 64 * x + rd x0 ((at_ + j : Nat) : Int) - 128 := by rw [rd_drop]
  have hbb : 0 ≤ 64 * x + rd (x0.drop at_) (j : Int) - 128 := by rw [hv]; omega
  have hx' : 64 * x + rd (x0.drop at_) (j : Int) - 128 < bd d := by
   rw [hv]
   rcases d with _ | _ | _ | d <;> simp only [bd] at hx ⊢ <;> omega
  have := ih (j + 1) _ (by omega) (by omega) (fun i hi1 hi2 => hf i (by omega) hi2) hbb hx' r hr
  refine Ev.step (fun k => ?_) this
  simp only [zq12.l2]
  rw [show ((at_ : Int) + (j : Int)) = ((at_ + j : Nat) : Int) from by omega, w64 (x := ((at_ + j : Nat) : Int)) (by omega) (by omega)]
  rw [if_pos (by omega), if_pos (by omega), if_pos (by omega), w64 (x := 64 * x) (by omega) (by omega), w64 (x := rd x0 ((at_ + j : Nat) : Int)) (by omega) (by omega), w64 (x := 64 * x + rd x0 ((at_ + j : Nat) : Int)) (by omega) (by omega), w64 (by omega) (by omega), w64_nat j (by omega), hv]

theorem cntF_fits (l : List Int) (f : Int) : ∀ d k, cntF l f d k = k + d → ∀ i : Nat, k ≤ i → i < k + d → i < l.length ∧ fits f i (rd l (i : Int)) = true := by
 intro d
 induction d with
 | zero => intro k h i h1 h2; omega
 | succ d ih =>
  intro k h i h1 h2
  simp only [cntF] at h
  split at h
  ·rename_i hk
   split at h
   ·rename_i hf
    rcases Nat.lt_or_ge k i with h3 | h3
    ·exact ih (k + 1) (by omega) i (by omega) (by omega)
    ·have : i = k := by omega
     subst this
     exact ⟨hk, hf⟩
   ·omega
  ·omega
theorem l1Read_l1 (x0 acc : List Int) (at_ n : Nat) (hn : n ≤ 4) (f : Int) (hat : at_ ≤ x0.length) (hb : Bytes x0) (hs : x0.length ≤ 1000000) : ∀ (d k0 : Nat), k0 + d = n → 1 ≤ k0 → ∀ r, Ev (fun k => zq12.j2 k x0 acc (at_ : Int) f (n : Int) (cntF (x0.drop at_) f d k0 : Int)) r → Ev (fun k => zq12.l1 k x0 acc (at_ : Int) f (n : Int) (k0 : Int)) r := by
 intro d
 induction d with
 | zero =>
  intro k0 hd h1 r hr
  refine Ev.step (fun k => ?_) hr
  simp only [zq12.l1, cntF]
  rw [if_neg (by omega)]
 | succ d ih =>
  intro k0 hd h1 r hr
  have hw : wrap64 ((at_ : Int) + (k0 : Int)) = ((at_ + k0 : Nat) : Int) := by rw [w64 (by omega) (by omega)]; omega
  by_cases c1 : k0 < (x0.drop at_).length
  ·rw [List.length_drop] at c1
   have hbk := hb (at_ + k0) (by omega)
   have hrd : rd (x0.drop at_) (k0 : Int) = rd x0 ((at_ + k0 : Nat) : Int) := rd_drop _ _ _
   by_cases c2 : fits f k0 (rd (x0.drop at_) (k0 : Int)) = true
   ·rw [show cntF (x0.drop at_) f (d + 1) k0 = cntF (x0.drop at_) f d (k0 + 1) from by simp only [cntF]; rw [if_pos (by rw [List.length_drop]; omega), if_pos c2]] at hr
    refine Ev.step (fun k => ?_) (ih (k0 + 1) (by omega) (by omega) r hr)
    simp only [zq12.l1]
    rw [hw, if_pos (by omega), if_pos (by omega), if_pos (by omega), w64 (x := rd x0 ((at_ + k0 : Nat) : Int)) (by omega) (by omega), fits_eq, ← hrd, c2]
    simp only [Option.bind_some]
    rw [if_pos trivial, w64_nat k0 (by omega)]
   ·rw [show cntF (x0.drop at_) f (d + 1) k0 = k0 from by simp only [cntF]; rw [if_pos (by rw [List.length_drop]; omega), if_neg c2]] at hr
    refine Ev.step (fun k => ?_) hr
    simp only [zq12.l1]
    rw [hw, if_pos (by omega), if_pos (by omega), if_pos (by omega), w64 (x := rd x0 ((at_ + k0 : Nat) : Int)) (by omega) (by omega), fits_eq, ← hrd]
    simp only [Option.bind_some]
    rw [if_neg c2]
  ·rw [show cntF (x0.drop at_) f (d + 1) k0 = k0 from by simp only [cntF]; rw [if_neg c1]] at hr
   rw [List.length_drop] at c1
   refine Ev.step (fun k => ?_) hr
   simp only [zq12.l1]
   rw [hw, if_pos (by omega), if_neg (by omega)]
/-- One point of the reference's reading. -/
theorem l1Read_one (x0 acc : List Int) (at_ : Nat) (hat : at_ < x0.length) (hb : Bytes x0) (hs : x0.length ≤ 1000000) (ha : acc.length < 17592186044416) (r : List Int)
  (h : Ev (fun k => zq12.l0 k x0 (acc ++ [(rp (x0.drop at_)).1]) ((at_ + (rp (x0.drop at_)).2 : Nat) : Int)) r) : Ev (fun k => zq12.l0 k x0 acc (at_ : Int)) r := by
 have hb0 := hb at_ hat
 have hr0 : rd (x0.drop at_) 0 = rd x0 (at_ : Int) := rd_drop x0 at_ 0
 refine Ev.shift ?_
 simp only [zq12.l0]
 rw [w64 (x := rd x0 (at_ : Int)) (by omega) (by omega)]
 refine Ev.ite_pos (by omega) (Ev.ite_pos (by omega) (Ev.pre (forms_eq _) ?_))
 have hf4 := form_le (rd x0 (at_ : Int))
 have hlen : (x0.drop at_).length = x0.length - at_ := List.length_drop
 have hcl := cntF_len (x0.drop at_) (rd x0 (at_ : Int)) (form (rd x0 (at_ : Int)) - 1) 1 (by omega)
 have hcg := cntF_ge (x0.drop at_) (rd x0 (at_ : Int)) (form (rd x0 (at_ : Int)) - 1) 1
 have hcle := cntF_le (x0.drop at_) (rd x0 (at_ : Int)) (form (rd x0 (at_ : Int)) - 1) 1
 by_cases hf : form (rd x0 (at_ : Int)) = 0
 ·rw [hf]
  have h2 : rp (x0.drop at_) = (65533, 1) := by unfold rp; rw [hr0, if_pos hf]
  rw [h2] at h
  refine Ev.shift ?_
  simp only [zq12.l1]
  refine Ev.ite_neg (by omega) (Ev.shift ?_)
  simp only [zq12.j2]
  refine Ev.ite_pos (by first | rfl | trivial) (Ev.shift ?_)
  simp only [zq12.j3]
  refine Ev.ite_pos (by first | rfl | trivial) (Ev.ite_pos ha ?_)
  rw [show wrap64 ((at_ : Int) + 1) = ((at_ + 1 : Nat) : Int) from w64_nat at_ (by omega)]
  exact h
 ·refine l1Read_l1 x0 acc at_ (form (rd x0 (at_ : Int))) hf4 (rd x0 (at_ : Int)) (by omega) hb hs (form (rd x0 (at_ : Int)) - 1) 1 (by omega) (Nat.le_refl _) r (Ev.shift ?_)
  simp only [zq12.j2]
  refine Ev.ite_neg (by omega) (Ev.shift ?_)
  simp only [zq12.j3]
  by_cases hc : cntF (x0.drop at_) (rd x0 (at_ : Int)) (form (rd x0 (at_ : Int)) - 1) 1 < form (rd x0 (at_ : Int))
  ·have h2 : rp (x0.drop at_) = (65533, cntF (x0.drop at_) (rd x0 (at_ : Int)) (form (rd x0 (at_ : Int)) - 1) 1) := by unfold rp; rw [hr0, if_neg hf, if_pos hc]
   rw [h2] at h
   refine Ev.ite_pos (by rw [decide_eq_true_eq]; omega) (Ev.ite_pos ha ?_)
   rw [w64 (by omega) (by omega)]
   simpa using h
  ·have h2 : rp (x0.drop at_) = (valF (x0.drop at_) (form (rd x0 (at_ : Int)) - 1) 1 (rd x0 (at_ : Int) - baseOf (form (rd x0 (at_ : Int)))), form (rd x0 (at_ : Int))) := by unfold rp; rw [hr0, if_neg hf, if_neg hc]
   rw [h2] at h
   have hB := form_base (rd x0 (at_ : Int)) hb0.1 hb0.2 hf
   have hfit := cntF_fits (x0.drop at_) (rd x0 (at_ : Int)) (form (rd x0 (at_ : Int)) - 1) 1 (by omega)
   have hl2 := l1Read_l2 x0 acc at_ (form (rd x0 (at_ : Int))) hf4 hb (by omega) hs ha (form (rd x0 (at_ : Int)) - 1) 1 (rd x0 (at_ : Int) - baseOf (form (rd x0 (at_ : Int)))) (by omega) (Nat.le_refl _) (fun i h1 h2 => by
    have := (hfit i h1 (by omega)).2
    have hlh := low_high (rd x0 (at_ : Int)) i
    simp only [fits, Bool.and_eq_true, decide_eq_true_eq] at this
    omega) hB.1 hB.2 r h
   refine Ev.ite_neg (by rw [decide_eq_true_eq]; omega) ?_
   have hw : ∀ c : Int, 0 ≤ c → c ≤ 240 → wrap64 (rd x0 (at_ : Int) - c) = rd x0 (at_ : Int) - c := fun c h0 h1 => w64 (by omega) (by omega)
   rw [hw 192 (by omega) (by omega), hw 224 (by omega) (by omega), hw 240 (by omega) (by omega)]
   have key : ∀ x, Ev (fun k => zq12.l2 k x0 acc (at_ : Int) (form (rd x0 (at_ : Int)) : Int) x ((1 : Nat) : Int)) r → Ev (fun k => zq12.j4 k x0 acc (at_ : Int) (form (rd x0 (at_ : Int)) : Int) x) r := fun x hx => Ev.shift (by simp only [zq12.j4]; exact hx)
   by_cases e2 : form (rd x0 (at_ : Int)) = 2
   ·refine Ev.ite_pos (by omega) (key _ ?_)
    rw [show rd x0 (at_ : Int) - baseOf (form (rd x0 (at_ : Int))) = rd x0 (at_ : Int) - 192 from by rw [e2]; rfl] at hl2
    exact hl2
   ·refine Ev.ite_neg (by omega) ?_
    by_cases e3 : form (rd x0 (at_ : Int)) = 3
    ·refine Ev.ite_pos (by omega) (key _ ?_)
     rw [show rd x0 (at_ : Int) - baseOf (form (rd x0 (at_ : Int))) = rd x0 (at_ : Int) - 224 from by rw [e3]; rfl] at hl2
     exact hl2
    ·refine Ev.ite_neg (by omega) ?_
     by_cases e4 : form (rd x0 (at_ : Int)) = 4
     ·refine Ev.ite_pos (by omega) (key _ ?_)
      rw [show rd x0 (at_ : Int) - baseOf (form (rd x0 (at_ : Int))) = rd x0 (at_ : Int) - 240 from by rw [e4]; rfl] at hl2
      exact hl2
     ·refine Ev.ite_neg (by omega) (key _ ?_)
      rw [show rd x0 (at_ : Int) - baseOf (form (rd x0 (at_ : Int))) = rd x0 (at_ : Int) from by unfold baseOf; rw [if_neg e2, if_neg e3, if_neg e4]; omega] at hl2
      exact hl2
theorem l1Read_l0 (x0 : List Int) (hb : Bytes x0) (hs : x0.length ≤ 1000000) : ∀ (d at_ : Nat) (acc : List Int), x0.length ≤ at_ + d → at_ ≤ x0.length → acc.length ≤ at_ → Ev (fun k => zq12.l0 k x0 acc (at_ : Int)) (acc ++ readAll d (x0.drop at_)) := by
 intro d
 induction d with
 | zero =>
  intro at_ acc h1 h2 h3
  refine Ev.stop fun k => ?_
  simp only [zq12.l0, readAll]
  rw [if_neg (by omega)]; simp
 | succ d ih =>
  intro at_ acc h1 h2 h3
  by_cases h0 : at_ < x0.length
  ·have hlen : (x0.drop at_).length = x0.length - at_ := List.length_drop
   have hne : x0.drop at_ ≠ [] := by intro e; rw [e] at hlen; simp at hlen; omega
   have p1 := rp_pos (x0.drop at_)
   have p2 := rp_len (x0.drop at_) (by omega)
   refine l1Read_one x0 acc at_ h0 hb hs (by omega) _ ?_
   simp only [readAll, if_neg hne]
   rw [List.drop_drop, show acc ++ (rp (x0.drop at_)).1 :: readAll d (x0.drop (at_ + (rp (x0.drop at_)).2)) = (acc ++ [(rp (x0.drop at_)).1]) ++ readAll d (x0.drop (at_ + (rp (x0.drop at_)).2)) from by simp]
   exact ih _ _ (by omega) (by omega) (by simp; omega)
  ·refine Ev.stop fun k => ?_
   have : x0.drop at_ = [] := List.drop_eq_nil_of_le (by omega)
   simp only [zq12.l0, readAll, this]
   rw [if_neg (by omega)]; simp
theorem l1Read_ev (l : List Int) (hb : Bytes l) (hs : l.length ≤ 1000000) : Ev (fun k => zq12.f k l) (readAll l.length l) := by
 have := l1Read_l0 l hb hs l.length 0 [] (by omega) (by omega) (by simp)
 simpa [zq12.f] using this

/-! Points put -/
def okP (x : Int) : Bool := (decide (0 ≤ x) && decide (x ≤ 1114111)) && !(decide (55296 ≤ x) && decide (x ≤ 57343))
def ptOf (x : Int) : Int := if okP x = true then x else 65533
def enc (y : Int) : List Int :=
 if y < 128 then [y] else if y < 2048 then [192 + y / 64, 128 + y % 64] else if y < 65536 then [224 + y / 4096, 128 + y / 64 % 64, 128 + y % 64]
 else [240 + y / 262144, 128 + y / 4096 % 64, 128 + y / 64 % 64, 128 + y % 64]
def putAll : List Int → List Int
 | [] => []
 | x :: xs => enc (ptOf x) ++ putAll xs
theorem enc_len (y : Int) : (enc y).length ≤ 4 := by unfold enc; (repeat' split) <;> simp
theorem putAll_len : ∀ l : List Int, (putAll l).length ≤ 4 * l.length
 | [] => by simp [putAll]
 | x :: xs => by
  have := putAll_len xs
  have h2 := enc_len (ptOf x)
  simp only [putAll, List.length_append, List.length_cons]; omega
theorem ptOf_range (x : Int) : 0 ≤ ptOf x ∧ ptOf x ≤ 1114111 := by
 unfold ptOf
 split
 ·rename_i h; unfold okP at h; simp at h; omega
 ·omega
theorem implPointOk (x : Int) : impl_PointOk.f x = some (okP x) := by
 unfold impl_PointOk.f okP
 rw [inRange_eq, inRange_eq]
 cases h : decide (0 ≤ x) && decide (x ≤ 1114111) <;> simp
theorem specPointOk (x : Int) : spec_PointOk.f x = some (okP x) := by
 unfold spec_PointOk.f okP
 rw [l1In_eq, l1In_eq]
 cases h : decide (0 ≤ x) && decide (x ≤ 1114111) <;> simp
theorem specPoint (x : Int) : spec_l1Point.f x = some (ptOf x) := by
 unfold spec_l1Point.f ptOf
 rw [specPointOk]
 cases h : okP x <;> simp
theorem specPut (x : Int) : spec_PointPut.f x = some (enc (ptOf x)) := by
 unfold spec_PointPut.f
 rw [specPoint]
 have h := ptOf_range x
 simp only [Option.bind_some]
 generalize ptOf x = y at h ⊢
 have t1 : Int.tdiv y 64 = y / 64 := Int.tdiv_eq_ediv_of_nonneg h.1
 have t2 : Int.tdiv y 4096 = y / 4096 := Int.tdiv_eq_ediv_of_nonneg h.1
 have t3 : Int.tdiv y 262144 = y / 262144 := Int.tdiv_eq_ediv_of_nonneg h.1
 have m1 : Int.tmod y 64 = y % 64 := Int.tmod_eq_emod_of_nonneg h.1
 rw [t1, t2, t3, m1, w64 (x := y / 64) (by omega) (by omega), w64 (x := y / 4096) (by omega) (by omega), w64 (x := y / 262144) (by omega) (by omega)]
 rw [Int.tmod_eq_emod_of_nonneg (a := y / 64) (by omega), Int.tmod_eq_emod_of_nonneg (a := y / 4096) (by omega)]
 rw [w64 (x := 192 + y / 64) (by omega) (by omega), w64 (x := 224 + y / 4096) (by omega) (by omega), w64 (x := 240 + y / 262144) (by omega) (by omega), w64 (x := 128 + y % 64) (by omega) (by omega), w64 (x := 128 + y / 64 % 64) (by omega) (by omega), w64 (x := 128 + y / 4096 % 64) (by omega) (by omega)]
 unfold enc
 by_cases c1 : y < 128
 ·rw [if_pos c1, if_pos c1]; simp; omega
 ·rw [if_neg c1, if_neg c1]
  by_cases c2 : y < 2048
  ·rw [if_pos c2, if_pos c2]; simp; omega
  ·rw [if_neg c2, if_neg c2]
   by_cases c3 : y < 65536
   ·rw [if_pos c3, if_pos c3]; simp; omega
   ·rw [if_neg c3, if_neg c3]; simp; omega
theorem implPut_ok (k : Nat) (b : List Int) (y : Int) (hk : okP y = true) (hb : b.length < 100000000000000) : zq62.f (k + 1) b y = some (b ++ enc y) := by
 have h : 0 ≤ y ∧ y ≤ 1114111 := by unfold okP at hk; simp at hk; omega
 simp only [zq62.f]
 rw [implPointOk, hk]
 simp only [Option.bind_some]
 rw [if_pos trivial]
 have o1 : y < 2048 → Go.bits .or .i64 192 (y / 64) = 192 + y / 64 := fun h2 => or_i64 6 192 _ (by omega) (by decide) (by omega) (by omega) (by omega) (by omega)
 have o2 : y < 65536 → Go.bits .or .i64 224 (y / 4096) = 224 + y / 4096 := fun h2 => or_i64 5 224 _ (by omega) (by decide) (by omega) (by omega) (by omega) (by omega)
 have o3 : Go.bits .or .i64 240 (y / 262144) = 240 + y / 262144 := or_i64 4 240 _ (by omega) (by decide) (by omega) (by omega) (by omega) (by omega)
 have o4 : ∀ z : Int, 0 ≤ z → z < 64 → Go.bits .or .i64 128 z = 128 + z := fun z h0 h1 => or_i64 6 128 z (by omega) (by decide) (by omega) h0 (by omega) (by omega)
 rw [and63_i64 y (by omega) (by omega), and63_i64 (y / 64) (by omega) (by omega), and63_i64 (y / 4096) (by omega) (by omega), o4 (y % 64) (by omega) (by omega), o4 (y / 64 % 64) (by omega) (by omega), o4 (y / 4096 % 64) (by omega) (by omega), o3]
 unfold enc
 by_cases c1 : y < 128
 ·rw [if_pos c1, if_pos c1, if_pos (by omega), show y % 256 = y from by omega]
 ·rw [if_neg c1, if_neg c1]
  by_cases c2 : y < 2048
  ·rw [if_pos c2, if_pos c2, o1 c2, show (192 + y / 64) % 256 = 192 + y / 64 from by omega, show (128 + y % 64) % 256 = 128 + y % 64 from by omega]
   (try simp only [Option.bind_some]); rw [if_pos (by simp; omega)]
  ·rw [if_neg c2, if_neg c2]
   by_cases c3 : y < 65536
   ·rw [if_pos c3, if_pos c3, o2 c3, show (224 + y / 4096) % 256 = 224 + y / 4096 from by omega, show (128 + y % 64) % 256 = 128 + y % 64 from by omega, show (128 + y / 64 % 64) % 256 = 128 + y / 64 % 64 from by omega]
    (try simp only [Option.bind_some]); rw [if_pos (by simp; omega)]
   ·rw [if_neg c3, if_neg c3, show (240 + y / 262144) % 256 = 240 + y / 262144 from by omega, show (128 + y % 64) % 256 = 128 + y % 64 from by omega, show (128 + y / 64 % 64) % 256 = 128 + y / 64 % 64 from by omega, show (128 + y / 4096 % 64) % 256 = 128 + y / 4096 % 64 from by omega]
    (try simp only [Option.bind_some]); rw [if_pos (by simp; omega)]
theorem implPut_ev (b : List Int) (x : Int) (hb : b.length < 100000000000000) : Ev (fun k => zq62.f k b x) (b ++ enc (ptOf x)) := by
 unfold ptOf
 by_cases h : okP x = true
 ·rw [if_pos h]
  exact Ev.stop fun k => implPut_ok k b x h hb
 ·rw [if_neg h]
  refine ⟨2, fun k hk => ?_⟩
  obtain ⟨m, rfl⟩ : ∃ m, k = m + 1 + 1 := ⟨k - 2, by omega⟩
  have hs : zq62.f (m + 1 + 1) b x = (impl_PointOk.f x).bind (fun t => if t = true then _ else (zq62.f (m + 1) b 65533).bind fun t => some t) := rfl
  show zq62.f (m + 1 + 1) b x = _
  rw [hs, implPointOk, Bool.eq_false_iff.mpr h]
  simp only [Option.bind_some]
  rw [if_neg (by simp), implPut_ok m b 65533 (by decide) hb]
  rfl
theorem implPuts_l0 (l : List Int) (hl : l.length ≤ 3000) : ∀ (d i : Nat) (acc : List Int), i + d = l.length → acc.length ≤ 4 * i → Ev (fun k => zq51.l0 k acc l (l.length : Int) (i : Int)) (acc ++ putAll (l.drop i)) := by
 intro d
 induction d with
 | zero =>
  intro i acc h1 h2
  refine Ev.stop fun k => ?_
  simp only [zq51.l0]
  rw [if_neg (by omega), List.drop_eq_nil_of_le (by omega)]
  simp [putAll]
 | succ d ih =>
  intro i acc h1 h2
  have hi : i < l.length := by omega
  rw [List.drop_eq_getElem_cons hi]
  refine Ev.shift ?_
  simp only [zq51.l0]
  have h3 := enc_len (ptOf l[i])
  refine Ev.ite_pos (by omega) (Ev.ite_pos (by omega) (Ev.ite_pos (by omega) (Ev.bind (a := acc ++ enc (ptOf l[i])) (by rw [rd_eq l i hi]; exact implPut_ev acc l[i] (by omega)) ?_)))
  rw [w64_nat i (by omega), show acc ++ putAll (l[i] :: l.drop (i + 1)) = (acc ++ enc (ptOf l[i])) ++ putAll (l.drop (i + 1)) from by simp [putAll]]
  exact ih (i + 1) _ (by omega) (by simp; omega)
theorem implPuts_ev (l : List Int) : Ev (fun k => zq51.f k l) (if 3000 < l.length then [] else putAll l) := by
 unfold zq51.f
 by_cases h : 3000 < l.length
 ·rw [if_pos h]; exact Ev.ite_pos (by omega) (Ev.rfl' fun _ => rfl)
 ·rw [if_neg h]
  have := implPuts_l0 l (by omega) l.length 0 [] (by omega) (by simp)
  exact Ev.ite_neg (by omega) (by simpa using this)
theorem specPuts_l0 (l : List Int) (hl : l.length ≤ 3000) : ∀ (d i : Nat) (acc : List Int), i + d = l.length → acc.length ≤ 4 * i → Ev (fun k => spec_l1Put.l0 k l acc (i : Int)) (acc ++ putAll (l.drop i)) := by
 intro d
 induction d with
 | zero =>
  intro i acc h1 h2
  refine Ev.stop fun k => ?_
  simp only [spec_l1Put.l0]
  rw [if_neg (by omega), List.drop_eq_nil_of_le (by omega)]
  simp [putAll]
 | succ d ih =>
  intro i acc h1 h2
  have hi : i < l.length := by omega
  rw [List.drop_eq_getElem_cons hi]
  refine Ev.shift ?_
  simp only [spec_l1Put.l0]
  have h3 := enc_len (ptOf l[i])
  refine Ev.ite_pos (by omega) (Ev.ite_pos (by omega) (Ev.pre (x := enc (ptOf l[i])) (by rw [rd_eq l i hi]; exact specPut l[i]) (Ev.ite_pos (by omega) ?_)))
  rw [w64_nat i (by omega), show acc ++ putAll (l[i] :: l.drop (i + 1)) = (acc ++ enc (ptOf l[i])) ++ putAll (l.drop (i + 1)) from by simp [putAll]]
  exact ih (i + 1) _ (by omega) (by simp; omega)
theorem specPuts_ev (l : List Int) : Ev (fun k => spec_PointsPut.f k l) (if 3000 < l.length then [] else putAll l) := by
 unfold spec_PointsPut.f
 by_cases h : 3000 < l.length
 ·rw [if_pos h]; exact Ev.ite_pos (by omega) (Ev.rfl' fun _ => rfl)
 ·rw [if_neg h]
  have := specPuts_l0 l (by omega) l.length 0 [] (by omega) (by simp)
  exact Ev.ite_neg (by omega) (Ev.bind (by simpa [spec_l1Put.f] using this) (Ev.rfl' fun _ => rfl))

/-! Which texts are right -/
theorem strOfNums_inj {a b : List Int} (ha : ∀ x ∈ a, 0 ≤ x ∧ x < 256) (hb : ∀ x ∈ b, 0 ≤ x ∧ x < 256) (h : (strOfNums a).toList = (strOfNums b).toList) : a = b := by
 rw [toList_data, toList_data, strOfNums_data, strOfNums_data] at h
 induction a generalizing b with
 | nil =>
  cases b with
  | nil => rfl
  | cons y b => simp at h
 | cons x a ih =>
  cases b with
  | nil => simp at h
  | cons y b =>
   simp only [List.map_cons, List.cons.injEq] at h
   have hx := ha x (by simp)
   have hy := hb y (by simp)
   have h1 := congrArg UInt8.toNat h.1
   simp only [UInt8.toNat_ofNat'] at h1
   rw [ih (fun z hz => ha z (by simp [hz])) (fun z hz => hb z (by simp [hz])) h.2, show x = y from by omega]
theorem Bytes.mem {l : List Int} (h : Bytes l) : ∀ x ∈ l, 0 ≤ x ∧ x < 256 := by
 intro x hx
 obtain ⟨i, hi, rfl⟩ := List.getElem_of_mem hx
 have := h i hi
 rwa [rd_eq l i hi] at this
theorem bytesOf_bytes (s : ByteArray) : Bytes (bytesOf s) := by
 intro i hi
 rw [rd_eq _ i hi]
 simp only [bytesOf, List.getElem_map]
 have := (s.data.toList[i]'(by simpa [bytesOf] using hi)).toNat_lt
 omega
/-- What stands first, taken off. -/
def trimB (l : List Int) : List Int := if l.take 3 = [239, 187, 191] then l.drop 3 else l
theorem trim_eq (l : List Int) (hb : Bytes l) : bytes_TrimPrefix.f l [239, 187, 191] = some (trimB l) := by
 unfold bytes_TrimPrefix.f bytes_HasPrefix.f trimB bytes_Equal.f
 by_cases h3 : 3 ≤ l.length
 ·rw [if_pos (by simpa using h3)]
  simp only [List.length_cons, List.length_nil, Option.bind_some]
  by_cases h : l.take 3 = [239, 187, 191]
  ·rw [if_pos h]
   simp [h, h3]
  ·rw [if_neg h]
   have hne : ((strOfNums (l.take 3)).toList == (strOfNums [239, 187, 191]).toList) = false := by
    rw [beq_eq_false_iff_ne]
    intro e
    exact h (strOfNums_inj (fun x hx => hb.mem x (List.mem_of_mem_take hx)) (by simp) e)
   simp only [Nat.zero_add, Nat.reduceAdd]
   rw [hne]; simp
 ·rw [if_neg (by simpa using h3)]
  have : ¬ l.take 3 = [239, 187, 191] := by
   intro e
   have := congrArg List.length e
   simp at this; omega
  rw [if_neg this]; rfl
theorem trim_bytes {l : List Int} (hb : Bytes l) : Bytes (trimB l) := by
 unfold trimB
 split
 ·exact hb.drop 3
 ·exact hb
theorem trim_len (l : List Int) : (trimB l).length ≤ l.length := by
 unfold trimB
 split
 ·rw [List.length_drop]; omega
 ·exact Nat.le_refl _
theorem implRead_ev (l : List Int) (hb : Bytes l) (hl : l.length ≤ 3000) : Ev (fun k => zq64.f k l) (readAll (trimB l).length (trimB l)) := by
 unfold zq64.f
 refine Ev.ite_neg (by omega) (Ev.pre (trim_eq l hb) ?_)
 have h := trim_len l
 have := implRead_l0 (trimB l).length (trimB l) [] (trim_bytes hb) (Nat.le_refl _) (by simp; omega)
 simpa using this
theorem specRead_ev (l : List Int) (hb : Bytes l) (hl : l.length ≤ 3000) : Ev (fun k => zq50.f k l) (readAll (trimB l).length (trimB l)) := by
 unfold zq50.f
 refine Ev.ite_neg (by omega) ?_
 have no : ¬ l.take 3 = [239, 187, 191] → Ev (fun k => zq50.j0 k l false) (readAll (trimB l).length (trimB l)) := by
  intro h
  rw [show trimB l = l from by unfold trimB; rw [if_neg h]]
  refine Ev.shift ?_
  simp only [zq50.j0]
  exact Ev.ite_neg (by simp) (Ev.bind (l1Read_ev l hb (by omega)) (Ev.rfl' fun _ => rfl))
 by_cases h3 : 3 ≤ l.length
 ·obtain ⟨a, b, c, t, rfl⟩ : ∃ a b c t, l = a :: b :: c :: t := by
   match l, h3 with
   | a :: b :: c :: t, _ => exact ⟨a, b, c, t, rfl⟩
  have r0 : rd (a :: b :: c :: t) 0 = a := rfl
  have r1 : rd (a :: b :: c :: t) 1 = b := rfl
  have r2 : rd (a :: b :: c :: t) 2 = c := rfl
  rw [r0, r1, r2]
  refine Ev.ite_pos (by omega) (Ev.ite_pos (by omega) ?_)
  by_cases ea : a = 239
  ·refine Ev.ite_pos ea (Ev.ite_pos (by omega) ?_)
   by_cases eb : b = 187
   ·refine Ev.ite_pos eb (Ev.ite_pos (by omega) ?_)
    by_cases ec : c = 191
    ·rw [show (c == 191) = true from by simp [ec]]
     rw [show trimB (a :: b :: c :: t) = t from by unfold trimB; rw [if_pos (by simp [ea, eb, ec])]; rfl]
     refine Ev.shift ?_
     simp only [zq50.j0]
     refine Ev.ite_pos trivial (Ev.ite_pos (by omega) (Ev.bind (a := readAll t.length t) ?_ (Ev.rfl' fun _ => rfl)))
     have hbt : Bytes t := hb.drop 3
     exact l1Read_ev t hbt (by simp at hl; omega)
    ·rw [show (c == 191) = false from by simp [ec]]
     exact no (by simp [ea, eb, ec])
   ·exact Ev.ite_neg eb (no (by simp [ea, eb]))
  ·exact Ev.ite_neg ea (no (by simp [ea]))
 ·exact Ev.ite_neg (by omega) (no (by intro e; have := congrArg List.length e; simp at this; omega))
/-- A text is right: what is read, put again, is the text. -/
def utfOk (l : List Int) : Bool := decide (l.length ≤ 3000) && ((strOfNums (if 3000 < (readAll (trimB l).length (trimB l)).length then [] else putAll (readAll (trimB l).length (trimB l)))).toList == (strOfNums l).toList)
theorem implUtfOk_ev (l : List Int) (hb : Bytes l) : Ev (fun k => impl_UtfOk.f k l) (utfOk l) := by
 unfold impl_UtfOk.f
 by_cases h : l.length ≤ 3000
 ·refine Ev.ite_pos (by omega) (Ev.bind (implRead_ev l hb h) (Ev.bind (implPuts_ev _) (Ev.rfl' fun _ => ?_)))
  simp [bytes_Equal.f, utfOk, h]
 ·exact Ev.ite_neg (by omega) (Ev.rfl' fun _ => by simp [utfOk, h])
theorem specUtfOk_ev (l : List Int) (hb : Bytes l) : Ev (fun k => spec_UtfOk.f k l) (utfOk l) := by
 unfold spec_UtfOk.f
 by_cases h : l.length ≤ 3000
 ·refine Ev.ite_pos (by omega) (Ev.bind (specRead_ev l hb h) (Ev.bind (specPuts_ev _) (Ev.rfl' fun _ => ?_)))
  simp [utfOk, h]
 ·exact Ev.ite_neg (by omega) (Ev.rfl' fun _ => by simp [utfOk, h])
def textOk (s : ByteArray) : Bool := utfOk (bytesOf s)
theorem implTextOk_ev (s : ByteArray) (h : s.size ≤ 9223372036854775807) : Ev (fun k => zq45.f k s) (textOk s) := by
 unfold zq45.f
 exact Ev.ite_pos h (implUtfOk_ev _ (bytesOf_bytes s))
theorem specTextOk_ev (s : ByteArray) (h : s.size ≤ 9223372036854775807) : Ev (fun k => zq59.f k s) (textOk s) := by
 unfold zq59.f
 exact Ev.ite_pos h (specUtfOk_ev _ (bytesOf_bytes s))
end Go.Proofs.Ytpojadoklfdfiaa.P

namespace Go.Proofs.Ytpojadoklfdfiaa.P
open Go.RowKit Go.Proofs.YtpojadoklfdfiaaW.PrintWords Go.Proofs.Ytpojadoklfdfiaa.G
set_option linter.unusedVariables false
set_option linter.unusedSimpArgs false

def outer (x : Int) : Bool := x == 9 || x == 10 || x == 12 || x == 32 || x == 47 || x == 62 || x == 0 || (decide (65 ≤ x) && decide (x ≤ 90))
theorem implBlank (x : Int) : impl_IsBlank.f x = some (x == 9 || x == 10 || x == 12 || x == 32) := by
 unfold impl_IsBlank.f
 by_cases h1 : x = 9
 ·simp [h1]
 ·by_cases h2 : x = 10
  ·simp [h2]
  ·by_cases h3 : x = 12
   ·simp [h3]
   ·simp [h1, h2, h3]
theorem specBlank (x : Int) : spec_IsBlank.f x = some (x == 9 || x == 10 || x == 12 || x == 32) := by
 unfold spec_IsBlank.f
 by_cases h1 : x = 9
 ·simp [h1]
 ·by_cases h2 : x = 10
  ·simp [h2]
  ·by_cases h3 : x = 12
   ·simp [h3]
   ·simp [h1, h2, h3]
theorem implOuter (x : Int) : impl_isOuter.f x = some (outer x) := by
 unfold impl_isOuter.f outer
 rw [implBlank, inRange_eq]
 cases h : (x == 9 || x == 10 || x == 12 || x == 32) with
 | true => simp
 | false =>
  simp only [Option.bind_some]
  rw [if_neg (by simp)]
  by_cases h1 : x = 47
  ·simp [h1]
  ·by_cases h2 : x = 62
   ·simp [h2]
   ·by_cases h3 : x = 0
    ·simp [h3]
    ·simp [h1, h2, h3]
def nameAll (l : List Int) : Bool := l.all fun x => !outer x
theorem implName_l0 (l : List Int) (hb : Bytes l) (hl : l.length < 1000000) : ∀ (d i : Nat), i + d = l.length → Ev (fun k => zq28.l0 k l (l.length : Int) (i : Int)) (nameAll (l.drop i)) := by
 intro d
 induction d with
 | zero =>
  intro i h
  refine Ev.stop fun k => ?_
  simp only [zq28.l0]
  rw [if_neg (by omega), List.drop_eq_nil_of_le (by omega)]; rfl
 | succ d ih =>
  intro i h
  have hi : i < l.length := by omega
  have hbi := hb i hi
  rw [List.drop_eq_getElem_cons hi]
  refine Ev.shift ?_
  simp only [zq28.l0]
  refine Ev.ite_pos (by omega) (Ev.ite_pos (by omega) (Ev.ite_pos (by omega) (Ev.pre (x := outer l[i]) (by rw [w64 (by omega) (by omega), rd_eq l i hi]; exact implOuter _) ?_)))
  rw [show nameAll (l[i] :: l.drop (i + 1)) = (!outer l[i] && nameAll (l.drop (i + 1))) from rfl]
  cases h : outer l[i] with
  | true => exact Ev.ite_pos rfl (Ev.rfl' fun _ => rfl)
  | false =>
   refine Ev.ite_neg (by simp) ?_
   rw [w64_nat i (by omega)]
   simpa using ih (i + 1) (by omega)
theorem specName_l0 (s : ByteArray) (hl : s.size < 1000000) : ∀ (d i : Nat), i + d = s.size → Ev (fun k => zq30.l0 k s (i : Int)) (nameAll ((bytesOf s).drop i)) := by
 have hlen := bytesOf_length s
 intro d
 induction d with
 | zero =>
  intro i h
  refine Ev.stop fun k => ?_
  simp only [zq30.l0]
  rw [if_neg (by omega), List.drop_eq_nil_of_le (by omega)]; rfl
 | succ d ih =>
  intro i h
  have hi : i < (bytesOf s).length := by omega
  have hbi := bytesOf_bytes s i hi
  have hbt : bt s (i : Int) = (bytesOf s)[i] := by rw [← rd_bytesOf, rd_eq _ i hi]
  rw [rd_eq _ i hi] at hbi
  rw [List.drop_eq_getElem_cons hi]
  refine Ev.shift ?_
  simp only [zq30.l0]
  rw [hbt]
  have hn := ih (i + 1) (by omega)
  rw [show nameAll ((bytesOf s)[i] :: (bytesOf s).drop (i + 1)) = (!outer (bytesOf s)[i] && nameAll ((bytesOf s).drop (i + 1))) from rfl]
  generalize (bytesOf s)[i] = x at hbi
  refine Ev.ite_pos (by omega) (Ev.ite_pos (by omega) (Ev.pre (x := (x == 9 || x == 10 || x == 12 || x == 32)) (by rw [w64 (by omega) (by omega)]; exact specBlank x) ?_))
  have hno : ∀ {b : Bool}, outer x = true → b = (!outer x && nameAll ((bytesOf s).drop (i + 1))) → b = false := fun h e => by rw [e, h]; rfl
  rw [w64_nat i (by omega)]
  cases h0 : (x == 9 || x == 10 || x == 12 || x == 32) with
  | true => rw [show outer x = true from by unfold outer; rw [h0]; simp]; exact Ev.ite_pos rfl (Ev.rfl' fun _ => rfl)
  | false =>
   refine Ev.ite_neg (by simp) ?_
   by_cases h1 : x = 47
   ·rw [show outer x = true from by unfold outer; simp [h1]]; exact Ev.ite_pos h1 (Ev.rfl' fun _ => rfl)
   ·refine Ev.ite_neg h1 ?_
    by_cases h2 : x = 62
    ·rw [show outer x = true from by unfold outer; simp [h2]]; exact Ev.ite_pos h2 (Ev.rfl' fun _ => rfl)
    ·refine Ev.ite_neg h2 ?_
     by_cases h3 : x = 0
     ·rw [show outer x = true from by unfold outer; simp [h3]]; exact Ev.ite_pos h3 (Ev.rfl' fun _ => rfl)
     ·refine Ev.ite_neg h3 ?_
      by_cases h4 : x ≥ 65
      ·refine Ev.ite_pos h4 ?_
       by_cases h5 : x ≤ 90
       ·rw [show outer x = true from by unfold outer; simp [h5, show 65 ≤ x from h4]]; exact Ev.ite_pos h5 (Ev.rfl' fun _ => rfl)
       ·rw [show outer x = false from by unfold outer; rw [h0]; simp [h1, h2, h3, h5]]
        exact Ev.ite_neg h5 (by simpa using hn)
      ·rw [show outer x = false from by unfold outer; rw [h0]; simp [h1, h2, h3]; omega]
       exact Ev.ite_neg h4 (by simpa using hn)
def nameOk (s : ByteArray) : Bool := (decide (1 ≤ s.size) && decide (s.size ≤ 60)) && ((decide (97 ≤ bt s 0) && decide (bt s 0 ≤ 122)) && (textOk s && nameAll (bytesOf s)))
theorem rangeSize (s : ByteArray) : (decide (1 ≤ (s.size : Int)) && decide ((s.size : Int) ≤ 60)) = (decide (1 ≤ s.size) && decide (s.size ≤ 60)) := by
 rw [show decide (1 ≤ (s.size : Int)) = decide (1 ≤ s.size) from by rw [decide_eq_decide]; omega, show decide ((s.size : Int) ≤ 60) = decide (s.size ≤ 60) from by rw [decide_eq_decide]; omega]
theorem implName_ev (s : ByteArray) : Ev (fun k => zq28.f k s) (nameOk s) := by
 unfold zq28.f nameOk
 rw [← rangeSize s]
 refine Ev.pre (inRange_eq _ _ _) ?_
 have no : Ev (fun k => zq28.j0 k s true) false := Ev.stop fun k => by simp only [zq28.j0]; rw [if_pos trivial]
 cases h : decide (1 ≤ (s.size : Int)) && decide ((s.size : Int) ≤ 60) with
 | false => exact Ev.ite_neg (by simp) no
 | true =>
  simp only [Bool.and_eq_true, decide_eq_true_eq] at h
  refine Ev.ite_pos rfl (Ev.ite_pos (by omega) ?_)
  by_cases h1 : bt s 0 < 97
  ·rw [show decide (97 ≤ bt s 0) = false from decide_eq_false (by omega)]
   exact Ev.ite_pos h1 no
  ·rw [show decide (97 ≤ bt s 0) = true from decide_eq_true (by omega)]
   refine Ev.ite_neg h1 ?_
   by_cases h2 : bt s 0 > 122
   ·rw [show decide (bt s 0 ≤ 122) = false from decide_eq_false (by omega)]
    exact Ev.ite_pos h2 no
   ·rw [show decide (bt s 0 ≤ 122) = true from decide_eq_true (by omega)]
    refine Ev.ite_neg h2 (Ev.bind (implTextOk_ev s (by omega)) ?_)
    cases ht : textOk s with
    | false => exact no
    | true =>
     refine Ev.shift ?_
     simp only [zq28.j0]
     refine Ev.ite_neg (by simp) (Ev.ite_pos (by omega) ?_)
     have := implName_l0 (bytesOf s) (bytesOf_bytes s) (by rw [bytesOf_length]; omega) (bytesOf s).length 0 (by omega)
     simpa using this
theorem specName_ev (s : ByteArray) : Ev (fun k => zq30.f k s) (nameOk s) := by
 unfold zq30.f nameOk
 rw [← rangeSize s]
 refine Ev.pre (l1In_eq _ _ _) ?_
 have no : Ev (fun k => zq30.j0 k s true) false := Ev.stop fun k => by simp only [zq30.j0]; rw [if_pos trivial]
 cases h : decide (1 ≤ (s.size : Int)) && decide ((s.size : Int) ≤ 60) with
 | false => exact Ev.ite_neg (by simp) no
 | true =>
  simp only [Bool.and_eq_true, decide_eq_true_eq] at h
  refine Ev.ite_pos rfl (Ev.bind (specTextOk_ev s (by omega)) ?_)
  cases ht : textOk s with
  | false => exact Ev.ite_neg (by simp) (by simpa using no)
  | true =>
   refine Ev.ite_pos rfl (Ev.ite_pos (by omega) ?_)
   by_cases h1 : bt s 0 < 97
   ·rw [show decide (97 ≤ bt s 0) = false from decide_eq_false (by omega)]
    exact Ev.ite_pos h1 no
   ·rw [show decide (97 ≤ bt s 0) = true from decide_eq_true (by omega)]
    refine Ev.ite_neg h1 ?_
    by_cases h2 : bt s 0 > 122
    ·rw [show decide (bt s 0 ≤ 122) = false from decide_eq_false (by omega), show decide (bt s 0 > 122) = true from decide_eq_true h2]
     exact no
    ·rw [show decide (bt s 0 ≤ 122) = true from decide_eq_true (by omega), show decide (bt s 0 > 122) = false from decide_eq_false h2]
     refine Ev.shift ?_
     simp only [zq30.j0]
     refine Ev.ite_neg (by simp) ?_
     have := specName_l0 s (by omega) s.size 0 (by omega)
     simpa using this

/-! Attributes -/
def attrB (a : S106) : Bool := (decide (1 ≤ a.f0.size) && decide (a.f0.size ≤ 60)) && (decide (a.f1.size ≤ 3000) && (textOk a.f0 && textOk a.f1))
theorem implAttr_ev (a : S106) : Ev (fun k => impl_attrOk.f k a.f0 a.f1) (attrB a) := by
 unfold impl_attrOk.f attrB
 rw [← rangeSize a.f0]
 refine Ev.pre (inRange_eq _ _ _) ?_
 cases h : decide (1 ≤ (a.f0.size : Int)) && decide ((a.f0.size : Int) ≤ 60) with
 | false => exact Ev.ite_neg (by simp) (Ev.rfl' fun _ => rfl)
 | true =>
  simp only [Bool.and_eq_true, decide_eq_true_eq] at h
  refine Ev.ite_pos rfl ?_
  by_cases h1 : a.f1.size ≤ 3000
  ·refine Ev.ite_pos (by omega) (Ev.bind (implTextOk_ev _ (by omega)) ?_)
   cases ht : textOk a.f0 with
   | false => exact Ev.ite_neg (by simp) (Ev.rfl' fun _ => by simp)
   | true => exact Ev.ite_pos rfl (Ev.bind (implTextOk_ev _ (by omega)) (Ev.rfl' fun _ => by simp [h1]))
  ·exact Ev.ite_neg (by omega) (Ev.rfl' fun _ => by simp [h1])
theorem specAttr_ev (a : S106) : Ev (fun k => spec_l4Attr.f k a.f0 a.f1) (attrB a) := by
 unfold spec_l4Attr.f attrB
 rw [← rangeSize a.f0]
 refine Ev.pre (l1In_eq _ _ _) ?_
 cases h : decide (1 ≤ (a.f0.size : Int)) && decide ((a.f0.size : Int) ≤ 60) with
 | false => exact Ev.ite_neg (by simp) (Ev.rfl' fun _ => rfl)
 | true =>
  simp only [Bool.and_eq_true, decide_eq_true_eq] at h
  refine Ev.ite_pos rfl ?_
  by_cases h1 : a.f1.size ≤ 3000
  ·refine Ev.ite_pos (by omega) (Ev.bind (specTextOk_ev _ (by omega)) ?_)
   cases ht : textOk a.f0 with
   | false => exact Ev.ite_neg (by simp) (Ev.rfl' fun _ => by simp)
   | true => exact Ev.ite_pos rfl (Ev.bind (specTextOk_ev _ (by omega)) (Ev.rfl' fun _ => by simp [h1]))
  ·exact Ev.ite_neg (by omega) (Ev.rfl' fun _ => by simp [h1])
/-- Has one of those ahead, from k on, this name? -/
def hasName (l : List S106) (n : List UInt8) : Bool := l.any fun a => a.f0.toList == n
theorem hasName_cons (x : S106) (l : List S106) (n : List UInt8) : hasName (x :: l) n = (x.f0.toList == n || hasName l n) := rfl
def attrsFrom (ahead : List S106) : List S106 → Bool
 | [] => true
 | a :: t => (attrB a && !hasName ahead a.f0.toList) && attrsFrom (ahead ++ [a]) t
def attrsOk (l : List S106) : Bool := decide (l.length ≤ 20) && attrsFrom [] l
theorem idx_hit {α : Type} (p : α → Bool) : ∀ (l t : List α) (a : α) (i : Int), p a = true → (idxFrom p (l ++ a :: t) i = i + l.length ↔ l.any p = false) ∧ i ≤ idxFrom p (l ++ a :: t) i
 | [], t, a, i, h => by simp [idxFrom, h]
 | x :: l, t, a, i, h => by
  simp only [List.cons_append, idxFrom, List.any_cons, List.length_cons]
  have ih := idx_hit p l t a (i + 1) h
  cases hx : p x with
  | true => simp; omega
  | false =>
   simp only [Bool.false_or]
   rw [if_neg (by simp)]
   refine ⟨?_, by omega⟩
   rw [← ih.1]
   constructor <;> intro e <;> omega
theorem implAttrs_l0 (l : List S106) (hl : l.length < 1000000) : ∀ (t ahead : List S106), l = ahead ++ t → Ev (fun k => zq58.l0 k l l (l.length : Int) (ahead.length : Int)) (attrsFrom ahead t)
 | [], ahead, h => by
  refine Ev.stop fun k => ?_
  simp only [zq58.l0, attrsFrom]
  rw [if_neg (by rw [h]; simp)]
 | a :: t, ahead, h => by
  have hlen : l.length = ahead.length + (t.length + 1) := by rw [h]; simp
  have hg : rd_T106 l (ahead.length : Int) = a := by
   unfold rd_T106; rw [Int.toNat_natCast, h]; simp [List.getD_eq_getElem?_getD]
  refine Ev.shift ?_
  simp only [zq58.l0]
  rw [hg]
  refine Ev.ite_pos (by omega) (Ev.ite_pos (by omega) (Ev.ite_pos (by omega) (Ev.pre (x := idxFrom (fun x => x.f0.toList == a.f0.toList) l 0) rfl ?_)))
  have hi := (idx_hit (fun x => x.f0.toList == a.f0.toList) ahead t a 0 (by simp)).1
  rw [← h, Int.zero_add] at hi
  simp only [attrsFrom]
  by_cases hc : idxFrom (fun x => x.f0.toList == a.f0.toList) l 0 = (ahead.length : Int)
  ·refine Ev.ite_pos hc (Ev.bind (implAttr_ev a) ?_)
   rw [show hasName ahead a.f0.toList = false from hi.1 hc]
   cases hb : attrB a with
   | false => exact Ev.ite_neg (by simp) (Ev.rfl' fun _ => rfl)
   | true =>
    refine Ev.ite_pos rfl ?_
    rw [w64_nat _ (by omega)]
    have := implAttrs_l0 l hl t (ahead ++ [a]) (by rw [h]; simp)
    rw [List.length_append] at this
    simpa using this
  ·rw [show hasName ahead a.f0.toList = true from by
    cases e : hasName ahead a.f0.toList with
    | true => rfl
    | false => exact absurd (hi.2 e) hc]
   exact Ev.ite_neg hc (Ev.rfl' fun _ => by simp)
theorem implAttrs_ev (l : List S106) : Ev (fun k => zq58.f k l) (attrsOk l) := by
 unfold zq58.f attrsOk
 by_cases h : 20 < l.length
 ·exact Ev.ite_pos (by omega) (Ev.rfl' fun _ => by rw [show decide (l.length ≤ 20) = false from decide_eq_false (by omega)]; rfl)
 ·rw [show decide (l.length ≤ 20) = true from decide_eq_true (by omega), Bool.true_and]
  exact Ev.ite_neg (by omega) (implAttrs_l0 l (by omega) l [] rfl)
theorem specAttrs_l1 (l : List S106) (hl : l.length < 1000000) (ahead t : List S106) (a : S106) (h : l = ahead ++ a :: t) (r : Bool) (hr : Ev (fun k => zq32.l0 k l ((ahead.length + 1 : Nat) : Int)) r) : ∀ (d i : Nat), i + d = ahead.length → Ev (fun k => zq32.l1 k l (ahead.length : Int) (i : Int)) (!hasName (ahead.drop i) a.f0.toList && r) := by
 have hlen : l.length = ahead.length + (t.length + 1) := by rw [h]; simp
 have hg : rd_T106 l (ahead.length : Int) = a := by
  unfold rd_T106; rw [Int.toNat_natCast, h]; simp [List.getD_eq_getElem?_getD]
 intro d
 induction d with
 | zero =>
  intro i hi
  rw [List.drop_eq_nil_of_le (by omega)]
  refine Ev.shift ?_
  simp only [zq32.l1]
  refine Ev.ite_neg (by omega) ?_
  rw [w64_nat _ (by omega)]
  simpa [hasName] using hr
 | succ d ih =>
  intro i hi
  have hil : i < ahead.length := by omega
  have hgi : rd_T106 l (i : Int) = ahead[i] := by
   unfold rd_T106; rw [Int.toNat_natCast, h, List.getD_eq_getElem?_getD, List.getElem?_append_left hil, List.getElem?_eq_getElem hil]; rfl
  rw [List.drop_eq_getElem_cons hil]
  refine Ev.shift ?_
  simp only [zq32.l1]
  rw [hg, hgi]
  refine Ev.ite_pos (by omega) (Ev.ite_pos (by omega) (Ev.ite_pos (by omega) (Ev.ite_pos (by omega) (Ev.ite_pos (by omega) ?_))))
  by_cases hc : ahead[i].f0.toList = a.f0.toList
  ·exact Ev.ite_pos hc (Ev.rfl' fun _ => by rw [hasName_cons, hc]; simp)
  ·refine Ev.ite_neg hc ?_
   rw [w64_nat i (by omega), hasName_cons, show (ahead[i].f0.toList == a.f0.toList) = false from beq_eq_false_iff_ne.mpr hc, Bool.false_or]
   exact ih (i + 1) (by omega)
theorem specAttrs_l0 (l : List S106) (hl : l.length < 1000000) : ∀ (t ahead : List S106), l = ahead ++ t → Ev (fun k => zq32.l0 k l (ahead.length : Int)) (attrsFrom ahead t)
 | [], ahead, h => by
  refine Ev.stop fun k => ?_
  simp only [zq32.l0, attrsFrom]
  rw [if_neg (by rw [h]; simp)]
 | a :: t, ahead, h => by
  have hlen : l.length = ahead.length + (t.length + 1) := by rw [h]; simp
  have hg : rd_T106 l (ahead.length : Int) = a := by
   unfold rd_T106; rw [Int.toNat_natCast, h]; simp [List.getD_eq_getElem?_getD]
  refine Ev.shift ?_
  simp only [zq32.l0]
  rw [hg]
  refine Ev.ite_pos (by omega) (Ev.ite_pos (by omega) (Ev.bind (specAttr_ev a) ?_))
  simp only [attrsFrom]
  cases hb : attrB a with
  | false => exact Ev.ite_neg (by simp) (Ev.rfl' fun _ => rfl)
  | true =>
   refine Ev.ite_pos rfl ?_
   have h1 := specAttrs_l0 l hl t (ahead ++ [a]) (by rw [h]; simp)
   rw [List.length_append] at h1
   have := specAttrs_l1 l hl ahead t a h _ h1 ahead.length 0 (by omega)
   simpa using this
theorem specAttrs_ev (l : List S106) : Ev (fun k => zq32.f k l) (attrsOk l) := by
 unfold zq32.f attrsOk
 by_cases h : 20 < l.length
 ·exact Ev.ite_pos (by omega) (Ev.rfl' fun _ => by rw [show decide (l.length ≤ 20) = false from decide_eq_false (by omega)]; rfl)
 ·rw [show decide (l.length ≤ 20) = true from decide_eq_true (by omega), Bool.true_and]
  exact Ev.ite_neg (by omega) (specAttrs_l0 l (by omega) l [] rfl)

/-! Single nodes -/
def emptyS (s : ByteArray) : Bool := s.toList == ([] : List UInt8)
/-- What a node has by itself, but for its parent and its place. -/
def nodeB (x : S64) : Bool :=
 if x.f0 = 1 then (emptyS x.f1 && emptyS x.f3) && decide (x.f2.length = 0)
 else if x.f0 = 2 then (emptyS x.f3 && decide (x.f2.length = 0)) && ((decide (x.f1.size ≤ 60) && textOk x.f1) && decide (x.f5.length = 0))
 else if x.f0 = 3 then emptyS x.f3 && (nameOk x.f1 && attrsOk x.f2)
 else if x.f0 = 4 then (emptyS x.f1 && decide (x.f2.length = 0)) && ((!emptyS x.f3 && textOk x.f3) && decide (x.f5.length = 0))
 else if x.f0 = 5 then (emptyS x.f1 && decide (x.f2.length = 0)) && (textOk x.f3 && decide (x.f5.length = 0))
 else false
theorem len0 {α : Type} (l : List α) : ((l.length : Int) == 0) = decide (l.length = 0) := by
 by_cases h : l.length = 0
 ·simp [h]
 ·rw [decide_eq_false h, beq_eq_false_iff_ne]; omega
theorem emptyS_iff (s : ByteArray) : emptyS s = true ↔ s.toList = ([] : List UInt8) := beq_iff_eq
theorem specNode_ev (x : S64) (h1 : x.f1.size ≤ 2000000) (h3 : x.f3.size ≤ 2000000) : Ev (fun k => zq41.f k x.f0 x.f1 x.f2 x.f3 x.f4 x.f5) (nodeB x) := by
 have key : Ev (fun k => zq41.j0 k (emptyS x.f1 && emptyS x.f3) x.f0 x.f1 x.f2 x.f3 x.f4 x.f5) (nodeB x) := by
  refine Ev.shift ?_
  simp only [zq41.j0, len0]
  unfold nodeB
  by_cases k1 : x.f0 = 1
  ·rw [if_pos k1]
   refine Ev.ite_pos k1 ?_
   cases hb : emptyS x.f1 && emptyS x.f3 with
   | true => exact Ev.ite_pos rfl (Ev.rfl' fun _ => rfl)
   | false => exact Ev.ite_neg (by simp) (Ev.rfl' fun _ => rfl)
  ·rw [if_neg k1]
   refine Ev.ite_neg k1 ?_
   by_cases k2 : x.f0 = 2
   ·rw [if_pos k2]
    refine Ev.ite_pos k2 ?_
    cases e3 : emptyS x.f3 with
    | false => exact Ev.ite_neg (fun h => by rw [(emptyS_iff _).2 h] at e3; cases e3) (Ev.rfl' fun _ => rfl)
    | true =>
     refine Ev.ite_pos ((emptyS_iff _).1 e3) ?_
     by_cases a0 : x.f2.length = 0
     ·refine Ev.ite_pos (by omega) ?_
      by_cases s0 : x.f1.size ≤ 60
      ·refine Ev.ite_pos (by omega) (Ev.bind (specTextOk_ev _ (by omega)) ?_)
       cases ht : textOk x.f1 with
       | true => exact Ev.ite_pos rfl (Ev.rfl' fun _ => by simp [a0, s0])
       | false => exact Ev.ite_neg (by simp) (Ev.rfl' fun _ => by simp)
      ·exact Ev.ite_neg (by omega) (Ev.rfl' fun _ => by simp [s0])
     ·exact Ev.ite_neg (by omega) (Ev.rfl' fun _ => by simp [a0])
   ·rw [if_neg k2]
    refine Ev.ite_neg k2 ?_
    by_cases k3 : x.f0 = 3
    ·rw [if_pos k3]
     refine Ev.ite_pos k3 ?_
     cases e3 : emptyS x.f3 with
     | false => exact Ev.ite_neg (fun h => by rw [(emptyS_iff _).2 h] at e3; cases e3) (Ev.rfl' fun _ => rfl)
     | true =>
      refine Ev.ite_pos ((emptyS_iff _).1 e3) (Ev.bind (specName_ev _) ?_)
      cases hn : nameOk x.f1 with
      | false => exact Ev.ite_neg (by simp) (Ev.rfl' fun _ => rfl)
      | true => exact Ev.ite_pos rfl (Ev.bind (specAttrs_ev _) (Ev.rfl' fun _ => rfl))
    ·rw [if_neg k3]
     refine Ev.ite_neg k3 ?_
     by_cases k4 : x.f0 = 4
     ·rw [if_pos k4]
      refine Ev.ite_pos k4 ?_
      cases e1 : emptyS x.f1 with
      | false => exact Ev.ite_neg (fun h => by rw [(emptyS_iff _).2 h] at e1; cases e1) (Ev.rfl' fun _ => rfl)
      | true =>
       refine Ev.ite_pos ((emptyS_iff _).1 e1) ?_
       by_cases a0 : x.f2.length = 0
       ·refine Ev.ite_pos (by omega) ?_
        cases e3 : emptyS x.f3 with
        | true => exact Ev.ite_pos ((emptyS_iff _).1 e3) (Ev.rfl' fun _ => by simp)
        | false =>
         refine Ev.ite_neg (fun h => by rw [(emptyS_iff _).2 h] at e3; cases e3) (Ev.bind (specTextOk_ev _ (by omega)) ?_)
         cases ht : textOk x.f3 with
         | true => exact Ev.ite_pos rfl (Ev.rfl' fun _ => by simp [a0])
         | false => exact Ev.ite_neg (by simp) (Ev.rfl' fun _ => by simp)
       ·exact Ev.ite_neg (by omega) (Ev.rfl' fun _ => by simp [a0])
     ·rw [if_neg k4]
      refine Ev.ite_neg k4 ?_
      by_cases k5 : x.f0 = 5
      ·rw [if_pos k5]
       refine Ev.ite_pos k5 ?_
       cases e1 : emptyS x.f1 with
       | false => exact Ev.ite_neg (fun h => by rw [(emptyS_iff _).2 h] at e1; cases e1) (Ev.rfl' fun _ => rfl)
       | true =>
        refine Ev.ite_pos ((emptyS_iff _).1 e1) ?_
        by_cases a0 : x.f2.length = 0
        ·refine Ev.ite_pos (by omega) (Ev.bind (specTextOk_ev _ (by omega)) ?_)
         cases ht : textOk x.f3 with
         | true => exact Ev.ite_pos rfl (Ev.rfl' fun _ => by simp [a0])
         | false => exact Ev.ite_neg (by simp) (Ev.rfl' fun _ => by simp)
        ·exact Ev.ite_neg (by omega) (Ev.rfl' fun _ => by simp [a0])
      ·rw [if_neg k5]
       exact Ev.ite_neg k5 (Ev.rfl' fun _ => rfl)
 unfold zq41.f
 cases e1 : emptyS x.f1 with
 | true => rw [e1, Bool.true_and] at key; exact Ev.ite_pos ((emptyS_iff _).1 e1) key
 | false => rw [e1, Bool.false_and] at key; exact Ev.ite_neg (fun h => by rw [(emptyS_iff _).2 h] at e1; cases e1) key
theorem implDoctype_ev (s : ByteArray) (h : s.size ≤ 2000000) : Ev (fun k => impl_doctypeOk.f k s) (decide (s.size ≤ 60) && textOk s) := by
 unfold impl_doctypeOk.f
 by_cases s0 : s.size ≤ 60
 ·exact Ev.ite_pos (by omega) (Ev.bind (implTextOk_ev _ (by omega)) (Ev.rfl' fun _ => by simp [s0]))
 ·exact Ev.ite_neg (by omega) (Ev.rfl' fun _ => by simp [s0])
/-- What the program asks of a node at a place. -/
def nodeAt (x : S64) (at_ : Int) : Bool := (nodeB x && ((x.f0 == 1) == (at_ == 0))) && (!(x.f0 == 1) || x.f4 == -1)
theorem implNode_ev (x : S64) (at_ : Int) (h1 : x.f1.size ≤ 2000000) (h3 : x.f3.size ≤ 2000000) : Ev (fun k => zq40.f k x.f0 x.f1 x.f2 x.f3 x.f4 x.f5 at_) (nodeAt x at_) := by
 unfold zq40.f nodeAt
 have no : Ev (fun k => zq40.j0 k true x.f0 x.f1 x.f2 x.f3 x.f4 x.f5) false := Ev.stop fun k => by simp only [zq40.j0]; rw [if_pos trivial]
 cases hc : ((x.f0 == 1) != (at_ == 0)) with
 | true =>
  have : ((x.f0 == 1) == (at_ == 0)) = false := by cases h : (x.f0 == 1) <;> cases h' : (at_ == 0) <;> simp_all
  rw [this]
  exact Ev.ite_pos rfl (by simpa using no)
 | false =>
  have : ((x.f0 == 1) == (at_ == 0)) = true := by cases h : (x.f0 == 1) <;> cases h' : (at_ == 0) <;> simp_all
  rw [this]
  refine Ev.ite_neg (by simp) ?_
  have yes : (x.f0 = 1 ∨ x.f0 = 3 ∨ x.f5.length = 0) → (x.f0 = 3 ∨ x.f2.length = 0) → Ev (fun k => zq40.j0 k false x.f0 x.f1 x.f2 x.f3 x.f4 x.f5) ((nodeB x && true) && (!(x.f0 == 1) || x.f4 == -1)) := by
   intro hk ha
   refine Ev.shift ?_
   simp only [zq40.j0]
   refine Ev.ite_neg (by simp) ?_
   unfold nodeB
   by_cases k1 : x.f0 = 1
   ·refine Ev.ite_pos k1 ?_
    rw [if_pos k1, show decide (x.f2.length = 0) = true from decide_eq_true (by omega)]
    cases e1 : emptyS x.f1 with
    | false => exact Ev.ite_neg (fun h => by rw [(emptyS_iff _).2 h] at e1; cases e1) (Ev.rfl' fun _ => by simp)
    | true =>
     refine Ev.ite_pos ((emptyS_iff _).1 e1) ?_
     cases e3 : emptyS x.f3 with
     | false => exact Ev.ite_neg (fun h => by rw [(emptyS_iff _).2 h] at e3; cases e3) (Ev.rfl' fun _ => by simp)
     | true => exact Ev.ite_pos ((emptyS_iff _).1 e3) (Ev.rfl' fun _ => by simp [k1])
   ·rw [if_neg k1]
    have hz : (!(x.f0 == 1) || x.f4 == -1) = true := by simp [k1]
    rw [hz]
    simp only [Bool.and_true]
    refine Ev.ite_neg k1 ?_
    by_cases k2 : x.f0 = 2
    ·rw [if_pos k2, show decide (x.f2.length = 0) = true from decide_eq_true (by omega), show decide (x.f5.length = 0) = true from decide_eq_true (by omega)]
     refine Ev.ite_pos k2 (Ev.bind (implDoctype_ev _ h1) ?_)
     cases hd : decide (x.f1.size ≤ 60) && textOk x.f1 with
     | true => exact Ev.ite_pos rfl (Ev.rfl' fun _ => by simp [emptyS])
     | false => exact Ev.ite_neg (by simp) (Ev.rfl' fun _ => by simp)
    ·rw [if_neg k2]
     refine Ev.ite_neg k2 ?_
     by_cases k3 : x.f0 = 3
     ·rw [if_pos k3]
      refine Ev.ite_pos k3 (Ev.bind (implName_ev _) ?_)
      cases hn : nameOk x.f1 with
      | false => exact Ev.ite_neg (by simp) (Ev.rfl' fun _ => by simp)
      | true =>
       refine Ev.ite_pos rfl (Ev.bind (implAttrs_ev _) ?_)
       cases ha2 : attrsOk x.f2 with
       | false => exact Ev.ite_neg (by simp) (Ev.rfl' fun _ => by simp)
       | true => exact Ev.ite_pos rfl (Ev.rfl' fun _ => by simp [emptyS])
     ·rw [if_neg k3]
      refine Ev.ite_neg k3 ?_
      have a0 : x.f2.length = 0 := by omega
      have b0 : x.f5.length = 0 := by omega
      by_cases k4 : x.f0 = 4
      ·rw [if_pos k4]
       refine Ev.ite_pos k4 ?_
       cases e1 : emptyS x.f1 with
       | false => exact Ev.ite_neg (fun h => by rw [(emptyS_iff _).2 h] at e1; cases e1) (Ev.rfl' fun _ => by simp)
       | true =>
        refine Ev.ite_pos ((emptyS_iff _).1 e1) ?_
        cases e3 : emptyS x.f3 with
        | true => exact Ev.ite_pos ((emptyS_iff _).1 e3) (Ev.rfl' fun _ => by simp)
        | false => exact Ev.ite_neg (fun h => by rw [(emptyS_iff _).2 h] at e3; cases e3) (Ev.bind (implTextOk_ev _ (by omega)) (Ev.rfl' fun _ => by simp [a0, b0]))
      ·rw [if_neg k4]
       refine Ev.ite_neg k4 ?_
       by_cases k5 : x.f0 = 5
       ·rw [if_pos k5]
        refine Ev.ite_pos k5 ?_
        cases e1 : emptyS x.f1 with
        | false => exact Ev.ite_neg (fun h => by rw [(emptyS_iff _).2 h] at e1; cases e1) (Ev.rfl' fun _ => by simp)
        | true => exact Ev.ite_pos ((emptyS_iff _).1 e1) (Ev.bind (implTextOk_ev _ (by omega)) (Ev.rfl' fun _ => by simp [a0, b0]))
       ·rw [if_neg k5]
        exact Ev.ite_neg k5 (Ev.rfl' fun _ => rfl)
  have bad : (¬ (x.f0 = 1 ∨ x.f0 = 3) ∧ x.f5.length ≠ 0 ∨ x.f0 ≠ 3 ∧ x.f2.length ≠ 0) → nodeB x = false := by
   intro h
   unfold nodeB
   by_cases k1 : x.f0 = 1
   ·rw [if_pos k1, decide_eq_false (show ¬ x.f2.length = 0 by omega)]; simp
   ·rw [if_neg k1]
    by_cases k3 : x.f0 = 3
    ·omega
    ·by_cases a0 : x.f2.length = 0
     ·have : decide (x.f5.length = 0) = false := decide_eq_false (by omega)
      rw [this]
      simp only [if_neg k3, Bool.and_false]
      simp
     ·rw [decide_eq_false a0]
      simp only [if_neg k3, Bool.and_false, Bool.false_and]
      simp
  have attrs : (x.f0 = 1 ∨ x.f0 = 3 ∨ x.f5.length = 0) → ¬ x.f0 = 3 → Ev (fun k => zq40.j0 k (decide ((x.f2.length : Int) > 0)) x.f0 x.f1 x.f2 x.f3 x.f4 x.f5) ((nodeB x && true) && (!(x.f0 == 1) || x.f4 == -1)) := by
   intro hk k3
   by_cases a0 : x.f2.length = 0
   ·rw [decide_eq_false (show ¬ (x.f2.length : Int) > 0 by omega)]
    exact yes hk (.inr a0)
   ·rw [decide_eq_true (show (x.f2.length : Int) > 0 by omega), bad (.inr ⟨k3, a0⟩)]
    simpa using no
  by_cases b0 : (x.f5.length : Int) > 0
  ·refine Ev.ite_pos b0 ?_
   by_cases k1 : x.f0 = 1
   ·refine Ev.pre (x := true) (by unfold impl_Node_mayHold.f; rw [if_pos k1]) (Ev.ite_pos rfl (Ev.ite_neg (by omega) (attrs (.inl k1) (by omega))))
   ·by_cases k3 : x.f0 = 3
    ·refine Ev.pre (x := true) (by unfold impl_Node_mayHold.f; rw [if_neg k1]; simp [k3]) (Ev.ite_pos rfl (Ev.ite_pos k3 (yes (.inr (.inl k3)) (.inl k3))))
    ·refine Ev.pre (x := false) (by unfold impl_Node_mayHold.f; rw [if_neg k1]; simp [k3]) (Ev.ite_neg (by simp) ?_)
     rw [bad (.inl ⟨by omega, by omega⟩)]
     simpa using no
  ·refine Ev.ite_neg b0 ?_
   by_cases k3 : x.f0 = 3
   ·exact Ev.ite_pos k3 (yes (.inr (.inl k3)) (.inl k3))
   ·exact Ev.ite_neg k3 (attrs (.inr (.inr (by omega))) k3)
end Go.Proofs.Ytpojadoklfdfiaa.P

namespace Go.Proofs.Ytpojadoklfdfiaa.P
open Go.RowKit Go.Proofs.YtpojadoklfdfiaaW.PrintWords Go.Proofs.Ytpojadoklfdfiaa.G
set_option linter.unusedVariables false
set_option linter.unusedSimpArgs false

theorem rdT (l : List S64) (i : Nat) (h : i < l.length) : rd_T64 l (i : Int) = l[i] := getD_eq _ l i h
/-- The parent of a node, by its number. -/
def par (l : List S64) (u : Int) : Int := (rd_T64 l u).f4
/-- A row's kids, marked; none where one may not stand there. -/
def scan (l : List S64) (at_ : Int) : List Int → List Bool → Option (List Bool)
 | [], s => some s
 | k :: ks, s => if ((decide (1 ≤ k) && decide (k ≤ (l.length : Int) - 1)) && (!(rdOf false s k) && par l k == at_)) = true then scan l at_ ks (s.set k.toNat true) else none
def scanAll (l : List S64) : Nat → Nat → List Bool → Option (List Bool)
 | 0, _, s => some s
 | d + 1, i, s => (scan l (i : Int) ((rd_T64 l (i : Int)).f5) s).bind fun s => scanAll l d (i + 1) s
theorem scan_len (l : List S64) (at_ : Int) : ∀ ks s s', scan l at_ ks s = some s' → s'.length = s.length
 | [], s, s', h => by cases h; rfl
 | k :: ks, s, s', h => by
  simp only [scan] at h
  split at h
  ·rw [scan_len l at_ ks _ _ h, List.length_set]
  ·cases h
/-- Whoever is marked has a parent within the tree. -/
def Told (l : List S64) (s : List Bool) : Prop := ∀ k : Nat, k < s.length → s[k]? = some true → 0 ≤ par l (k : Int) ∧ par l (k : Int) ≤ (l.length : Int) - 1
theorem scan_told (l : List S64) (at_ : Int) (h0 : 0 ≤ at_) (h1 : at_ ≤ (l.length : Int) - 1) : ∀ ks s s', Told l s → scan l at_ ks s = some s' → Told l s'
 | [], s, s', ht, h => by cases h; exact ht
 | k :: ks, s, s', ht, h => by
  simp only [scan] at h
  split at h
  ·rename_i hc
   simp only [Bool.and_eq_true, decide_eq_true_eq, beq_iff_eq] at hc
   refine scan_told l at_ h0 h1 ks _ _ ?_ h
   intro j hj hs
   by_cases e : j = k.toNat
   ·subst e
    rw [show ((k.toNat : Nat) : Int) = k from by omega, hc.2.2]
    exact ⟨h0, h1⟩
   ·rw [List.getElem?_set_ne (by omega)] at hs
    rw [List.length_set] at hj
    exact ht j hj hs
  ·cases h
theorem scanAll_len (l : List S64) : ∀ d i s s', scanAll l d i s = some s' → s'.length = s.length
 | 0, i, s, s', h => by cases h; rfl
 | d + 1, i, s, s', h => by
  simp only [scanAll] at h
  obtain ⟨s1, h1, h2⟩ := Option.bind_eq_some_iff.1 h
  rw [scanAll_len l d _ _ _ h2, scan_len _ _ _ _ _ h1]
theorem scanAll_told (l : List S64) : ∀ d i s s', i + d ≤ l.length → Told l s → scanAll l d i s = some s' → Told l s'
 | 0, i, s, s', hi, ht, h => by cases h; exact ht
 | d + 1, i, s, s', hi, ht, h => by
  simp only [scanAll] at h
  obtain ⟨s1, h1, h2⟩ := Option.bind_eq_some_iff.1 h
  exact scanAll_told l d (i + 1) s1 s' (by omega) (scan_told l _ (by omega) (by omega) _ _ _ ht h1) h2
theorem told_start (l : List S64) (n : Nat) : Told l (List.replicate n false) := by
 intro k hk h
 rw [List.length_replicate] at hk
 rw [List.getElem?_replicate, if_pos hk] at h
 cases h

/-! Up from a node -/
def chS (l : List S64) : Nat → Int → Bool
 | 0, u => !decide (u ≥ 0)
 | d + 1, u => if u ≥ 0 then chS l d (par l u) else true
def nodeIn (l : List S64) (u : Int) : Bool := decide (0 ≤ u) && decide (u ≤ (l.length : Int) - 1)
def chI (l : List S64) (i : Int) : Nat → Int → Bool
 | 0, u => nodeIn l u
 | d + 1, u => if u = i then true else if nodeIn l u = true then chI l i d (par l u) else false
/-- A step up; at the top it stays. -/
def up (l : List S64) (u : Int) : Int := if u ≥ 0 then par l u else u
def ups (l : List S64) : Nat → Int → Int
 | 0, u => u
 | d + 1, u => ups l d (up l u)
theorem ups_add (l : List S64) : ∀ a b u, ups l (a + b) u = ups l b (ups l a u)
 | 0, b, u => by rw [Nat.zero_add]; rfl
 | a + 1, b, u => by rw [show a + 1 + b = (a + b) + 1 from by omega]; exact ups_add l a b (up l u)
theorem ups_neg (l : List S64) : ∀ d u, u < 0 → ups l d u = u
 | 0, u, h => rfl
 | d + 1, u, h => by
  show ups l d (up l u) = u
  rw [show up l u = u from by unfold up; rw [if_neg (by omega)]]
  exact ups_neg l d u h
theorem chS_ups (l : List S64) : ∀ d u, chS l d u = decide (ups l d u < 0)
 | 0, u => by
  show (!decide (u ≥ 0)) = decide (u < 0)
  by_cases h : u ≥ 0
  ·rw [decide_eq_true h, decide_eq_false (by omega)]; rfl
  ·rw [decide_eq_false h, decide_eq_true (by omega)]; rfl
 | d + 1, u => by
  show (if u ≥ 0 then chS l d (par l u) else true) = decide (ups l d (up l u) < 0)
  by_cases h : u ≥ 0
  ·rw [if_pos h, chS_ups l d, show up l u = par l u from by unfold up; rw [if_pos h]]
  ·rw [if_neg h, show up l u = u from by unfold up; rw [if_neg h], ups_neg l d u (by omega), decide_eq_true (by omega)]
theorem cyc (l : List S64) (i : Int) (hi : 0 ≤ i) (m : Nat) (h : ups l (m + 1) i = i) : ∀ d, 0 ≤ ups l d i := by
 have hm : ∀ j, ups l ((m + 1) * j) i = i := by
  intro j
  induction j with
  | zero => rfl
  | succ j ih => rw [Nat.mul_succ, ups_add, ih, h]
 intro d
 by_cases h1 : ups l d i < 0
 ·have h2 := hm d
  have h3 : (m + 1) * d = d + m * d := by rw [Nat.succ_mul]; omega
  rw [h3, ups_add, ups_neg l _ _ h1] at h2
  omega
 ·omega
theorem chI_false (l : List S64) (i : Int) (hr : ∀ u, nodeIn l u = true → -1 ≤ par l u ∧ par l u ≤ (l.length : Int) - 1) : ∀ d u, -1 ≤ u → u ≤ (l.length : Int) - 1 → chI l i d u = false → chS l d u = true
 | 0, u, h1, h2, h => by
  simp only [chI, nodeIn, Bool.and_eq_false_iff, decide_eq_false_iff_not] at h
  simp only [chS, Bool.not_eq_true', decide_eq_false_iff_not]
  omega
 | d + 1, u, h1, h2, h => by
  simp only [chI] at h
  simp only [chS]
  by_cases h3 : u ≥ 0
  ·rw [if_pos h3]
   by_cases h4 : u = i
   ·rw [if_pos h4] at h; cases h
   ·have h5 : nodeIn l u = true := by simp [nodeIn, h2, show 0 ≤ u from h3]
    rw [if_neg h4, if_pos h5] at h
    exact chI_false l i hr d _ (hr u h5).1 (hr u h5).2 h
  ·rw [if_neg h3]
/-- What stands above itself is come to again, or there are too many. -/
theorem chI_true (l : List S64) (i : Int) : ∀ d u, chI l i d u = true → (∃ m, m < d ∧ ups l m u = i) ∨ 0 ≤ ups l d u
 | 0, u, h => by
  simp only [chI, nodeIn, Bool.and_eq_true, decide_eq_true_eq] at h
  exact .inr h.1
 | d + 1, u, h => by
  simp only [chI] at h
  split at h
  ·rename_i e
   exact .inl ⟨0, by omega, e⟩
  ·split at h
   ·rename_i hn
    simp only [nodeIn, Bool.and_eq_true, decide_eq_true_eq] at hn
    have hu : up l u = par l u := by unfold up; rw [if_pos (by omega)]
    rcases chI_true l i d _ h with ⟨m, hm, e⟩ | e
    ·exact .inl ⟨m + 1, by omega, by show ups l m (up l u) = i; rw [hu]; exact e⟩
    ·exact .inr (by show 0 ≤ ups l d (up l u); rw [hu]; exact e)
   ·cases h
theorem ch_agree (l : List S64) (hr : ∀ u, nodeIn l u = true → -1 ≤ par l u ∧ par l u ≤ (l.length : Int) - 1) (i : Int) (hi : nodeIn l i = true) : chS l (l.length + 1) i = !chI l i l.length (par l i) := by
 have h0 : 0 ≤ i := by simp only [nodeIn, Bool.and_eq_true, decide_eq_true_eq] at hi; exact hi.1
 have hs : chS l (l.length + 1) i = chS l l.length (par l i) := by simp only [chS]; rw [if_pos (by omega)]
 cases hc : chI l i l.length (par l i) with
 | false => rw [hs, chI_false l i hr _ _ (hr i hi).1 (hr i hi).2 hc]; rfl
 | true =>
  rw [chS_ups]
  have hu : up l i = par l i := by unfold up; rw [if_pos (by omega)]
  rcases chI_true l i _ _ hc with ⟨m, _, e⟩ | e
  ·have := cyc l i h0 m (by show ups l m (up l i) = i; rw [hu]; exact e) (l.length + 1)
   simp; omega
  ·have : ups l (l.length + 1) i = ups l l.length (par l i) := by show ups l l.length (up l i) = _; rw [hu]
   rw [this]; simp; omega

/-! When a tree is right -/
def kidsOk (l : List S64) : Option (List Bool) := scanAll l l.length 0 (List.replicate l.length false)
def lastS (l : List S64) (s : List Bool) : Nat → Nat → Bool
 | 0, _ => true
 | d + 1, i => (rdOf false s (i : Int) == decide (par l (i : Int) ≥ 0) && chS l (l.length + 1) (i : Int)) && lastS l s d (i + 1)
def lastI (l : List S64) (s : List Bool) : Nat → Nat → Bool
 | 0, _ => true
 | d + 1, i => (!((par l (i : Int) == -1) == rdOf false s (i : Int)) && !chI l (i : Int) l.length (par l (i : Int))) && lastI l s d (i + 1)
def nodesI (l : List S64) : Nat → Nat → Bool
 | 0, _ => true
 | d + 1, i => nodeAt (rd_T64 l (i : Int)) (i : Int) && nodesI l d (i + 1)
def treeI (l : List S64) : Bool := (decide (1 ≤ l.length) && decide (l.length ≤ 500)) && (nodesI l l.length 0 && (match kidsOk l with | none => false | some s => lastI l s l.length 0))
/-- What the reference asks of a node, its kids aside. -/
def nodeS (l : List S64) (i : Int) : Bool := ((nodeB (rd_T64 l i) && ((((rd_T64 l i).f0 == 1) == (i == 0)))) && ((decide (-1 ≤ par l i) && decide (par l i ≤ (l.length : Int) - 1)))) && (!(i == 0) || par l i == -1)
def loopS (l : List S64) : Nat → Nat → List Bool → Bool
 | 0, _, s => lastS l s l.length 0
 | d + 1, i, s => if nodeS l (i : Int) = true then (match scan l (i : Int) ((rd_T64 l (i : Int)).f5) s with | none => false | some s => loopS l d (i + 1) s) else false
def treeS (l : List S64) : Bool := (decide (1 ≤ l.length) && decide (l.length ≤ 500)) && loopS l l.length 0 (List.replicate l.length false)
def nodesS (l : List S64) : Nat → Nat → Bool
 | 0, _ => true
 | d + 1, i => nodeS l (i : Int) && nodesS l d (i + 1)
theorem loopS_eq (l : List S64) : ∀ d i s, loopS l d i s = (nodesS l d i && (match scanAll l d i s with | none => false | some s => lastS l s l.length 0))
 | 0, i, s => by simp [loopS, nodesS, scanAll]
 | d + 1, i, s => by
  simp only [loopS, nodesS, scanAll]
  cases h : nodeS l (i : Int) with
  | false => simp
  | true =>
   rw [if_pos rfl]
   cases h2 : scan l (i : Int) ((rd_T64 l (i : Int)).f5) s with
   | none => simp
   | some s1 => simp only [Option.bind_some, Bool.true_and]; exact loopS_eq l d (i + 1) s1
theorem nodesS_iff (l : List S64) : ∀ d i, nodesS l d i = true ↔ ∀ j : Nat, i ≤ j → j < i + d → nodeS l (j : Int) = true
 | 0, i => by simp [nodesS]; intro j h1 h2; omega
 | d + 1, i => by
  simp only [nodesS, Bool.and_eq_true, nodesS_iff l d (i + 1)]
  constructor
  ·rintro ⟨h1, h2⟩ j h3 h4
   rcases Nat.lt_or_ge i j with h5 | h5
   ·exact h2 j (by omega) (by omega)
   ·rw [show j = i from by omega]; exact h1
  ·intro h
   exact ⟨h i (by omega) (by omega), fun j h1 h2 => h j (by omega) (by omega)⟩
theorem nodesI_iff (l : List S64) : ∀ d i, nodesI l d i = true ↔ ∀ j : Nat, i ≤ j → j < i + d → nodeAt (rd_T64 l (j : Int)) (j : Int) = true
 | 0, i => by simp [nodesI]; intro j h1 h2; omega
 | d + 1, i => by
  simp only [nodesI, Bool.and_eq_true, nodesI_iff l d (i + 1)]
  constructor
  ·rintro ⟨h1, h2⟩ j h3 h4
   rcases Nat.lt_or_ge i j with h5 | h5
   ·exact h2 j (by omega) (by omega)
   ·rw [show j = i from by omega]; exact h1
  ·intro h
   exact ⟨h i (by omega) (by omega), fun j h1 h2 => h j (by omega) (by omega)⟩
theorem lastS_iff (l : List S64) (s : List Bool) : ∀ d i, lastS l s d i = true ↔ ∀ j : Nat, i ≤ j → j < i + d → (rdOf false s (j : Int) == decide (par l (j : Int) ≥ 0) && chS l (l.length + 1) (j : Int)) = true
 | 0, i => by simp [lastS]; intro j h1 h2; omega
 | d + 1, i => by
  rw [lastS, Bool.and_eq_true, lastS_iff l s d (i + 1)]
  constructor
  ·rintro ⟨h1, h2⟩ j h3 h4
   rcases Nat.lt_or_ge i j with h5 | h5
   ·exact h2 j (by omega) (by omega)
   ·rw [show j = i from by omega]; exact h1
  ·intro h
   exact ⟨h i (by omega) (by omega), fun j h1 h2 => h j (by omega) (by omega)⟩
theorem lastI_iff (l : List S64) (s : List Bool) : ∀ d i, lastI l s d i = true ↔ ∀ j : Nat, i ≤ j → j < i + d → (!((par l (j : Int) == -1) == rdOf false s (j : Int)) && !chI l (j : Int) l.length (par l (j : Int))) = true
 | 0, i => by simp [lastI]; intro j h1 h2; omega
 | d + 1, i => by
  rw [lastI, Bool.and_eq_true, lastI_iff l s d (i + 1)]
  constructor
  ·rintro ⟨h1, h2⟩ j h3 h4
   rcases Nat.lt_or_ge i j with h5 | h5
   ·exact h2 j (by omega) (by omega)
   ·rw [show j = i from by omega]; exact h1
  ·intro h
   exact ⟨h i (by omega) (by omega), fun j h1 h2 => h j (by omega) (by omega)⟩
theorem tree_agree (l : List S64) : treeS l = treeI l := by
 unfold treeS treeI
 rw [loopS_eq]
 cases hn : decide (1 ≤ l.length) && decide (l.length ≤ 500) with
 | false => rfl
 | true =>
  simp only [Bool.and_eq_true, decide_eq_true_eq] at hn
  rw [Bool.true_and, Bool.true_and]
  show (nodesS l l.length 0 && match kidsOk l with | none => false | some s => lastS l s l.length 0) = _
  cases hk : kidsOk l with
  | none => simp
  | some s =>
   have hsl : s.length = l.length := by rw [scanAll_len l _ _ _ _ hk, List.length_replicate]
   have hst : Told l s := scanAll_told l _ _ _ _ (by omega) (told_start l _) hk
   have hrd : ∀ j : Nat, j < l.length → rdOf false s (j : Int) = true → 0 ≤ par l (j : Int) ∧ par l (j : Int) ≤ (l.length : Int) - 1 := by
    intro j hj h
    refine hst j (by omega) ?_
    rw [rdOf_eq _ s j (by omega)] at h
    rw [List.getElem?_eq_getElem (by omega), h]
   rw [Bool.eq_iff_iff]
   simp only [Bool.and_eq_true]
   rw [nodesS_iff, nodesI_iff, lastS_iff, lastI_iff]
   have rng : (∀ j : Nat, j < l.length → -1 ≤ par l (j : Int) ∧ par l (j : Int) ≤ (l.length : Int) - 1) → ∀ u, nodeIn l u = true → -1 ≤ par l u ∧ par l u ≤ (l.length : Int) - 1 := by
    intro h u hu
    simp only [nodeIn, Bool.and_eq_true, decide_eq_true_eq] at hu
    have := h u.toNat (by omega)
    rwa [show ((u.toNat : Nat) : Int) = u from by omega] at this
   have inn : ∀ j : Nat, j < l.length → nodeIn l (j : Int) = true := fun j hj => by simp only [nodeIn, Bool.and_eq_true, decide_eq_true_eq]; omega
   constructor
   ·rintro ⟨h1, h2⟩
    have hr : ∀ j : Nat, j < l.length → -1 ≤ par l (j : Int) ∧ par l (j : Int) ≤ (l.length : Int) - 1 := by
     intro j hj
     have := h1 j (by omega) (by omega)
     simp only [nodeS, Bool.and_eq_true, decide_eq_true_eq] at this
     exact this.1.2
    refine ⟨fun j hj1 hj2 => ?_, fun j hj1 hj2 => ?_⟩
    ·have := h1 j hj1 hj2
     simp only [nodeS, Bool.and_eq_true, decide_eq_true_eq, Bool.or_eq_true, Bool.not_eq_true', beq_eq_false_iff_ne, beq_iff_eq] at this
     simp only [nodeAt, Bool.and_eq_true, Bool.or_eq_true, Bool.not_eq_true', beq_eq_false_iff_ne, beq_iff_eq]
     refine ⟨⟨this.1.1.1, this.1.1.2⟩, ?_⟩
     have e := this.1.1.2
     rcases this.2 with h3 | h3
     ·left
      intro h4
      rw [show ((rd_T64 l (j : Int)).f0 == 1) = true from beq_iff_eq.2 h4] at e
      exact h3 (beq_iff_eq.1 e.symm)
     ·exact .inr h3
    ·have := h2 j hj1 hj2
     rw [Bool.and_eq_true] at this ⊢
     rw [ch_agree l (rng hr) (j : Int) (inn j (by omega))] at this
     refine ⟨?_, this.2⟩
     have h3 := hr j (by omega)
     have h4 := beq_iff_eq.1 this.1
     rw [h4]
     by_cases h5 : par l (j : Int) ≥ 0
     ·rw [decide_eq_true h5, show (par l (j : Int) == -1) = false from beq_eq_false_iff_ne.2 (by omega)]; rfl
     ·rw [decide_eq_false h5, show (par l (j : Int) == -1) = true from beq_iff_eq.2 (by omega)]; rfl
   ·rintro ⟨h1, h2⟩
    have hr : ∀ j : Nat, j < l.length → -1 ≤ par l (j : Int) ∧ par l (j : Int) ≤ (l.length : Int) - 1 := by
     intro j hj
     have := h2 j (by omega) (by omega)
     rw [Bool.and_eq_true] at this
     by_cases h3 : par l (j : Int) = -1
     ·omega
     ·have h4 := this.1
      rw [show (par l (j : Int) == -1) = false from beq_eq_false_iff_ne.2 h3] at h4
      have h5 : rdOf false s (j : Int) = true := by
       cases e : rdOf false s (j : Int) with
       | true => rfl
       | false => rw [e] at h4; simp at h4
      have := hrd j hj h5
      omega
    refine ⟨fun j hj1 hj2 => ?_, fun j hj1 hj2 => ?_⟩
    ·have := h1 j hj1 hj2
     have h3 := hr j (by omega)
     simp only [nodeAt, Bool.and_eq_true, Bool.or_eq_true, Bool.not_eq_true', beq_eq_false_iff_ne, beq_iff_eq] at this
     simp only [nodeS, Bool.and_eq_true, decide_eq_true_eq, Bool.or_eq_true, Bool.not_eq_true', beq_eq_false_iff_ne, beq_iff_eq]
     refine ⟨⟨⟨this.1.1, this.1.2⟩, h3⟩, ?_⟩
     have e := this.1.2
     rcases this.2 with h4 | h4
     ·left
      intro h5
      rw [show ((j : Int) == 0) = true from beq_iff_eq.2 h5] at e
      exact h4 (beq_iff_eq.1 e)
     ·exact .inr h4
    ·have := h2 j hj1 hj2
     rw [Bool.and_eq_true] at this ⊢
     rw [ch_agree l (rng hr) (j : Int) (inn j (by omega))]
     refine ⟨?_, this.2⟩
     have h3 := hr j (by omega)
     have h4 := this.1
     rw [beq_iff_eq]
     by_cases h5 : par l (j : Int) ≥ 0
     ·rw [decide_eq_true h5]
      rw [show (par l (j : Int) == -1) = false from beq_eq_false_iff_ne.2 (by omega)] at h4
      cases e : rdOf false s (j : Int) with
      | true => rfl
      | false => rw [e] at h4; simp at h4
     ·rw [decide_eq_false h5]
      rw [show (par l (j : Int) == -1) = true from beq_iff_eq.2 (by omega)] at h4
      cases e : rdOf false s (j : Int) with
      | false => rfl
      | true => rw [e] at h4; simp at h4

/-! The program's walk -/
/-- A tree within the laws' reach. -/
def SmallT (l : List S64) : Prop := l.length ≤ 1048576 ∧ ∀ x ∈ l, x.f1.size ≤ 1048576 ∧ x.f3.size ≤ 1048576 ∧ x.f2.length ≤ 1048576 ∧ x.f5.length ≤ 1048576
theorem SmallT.at_ {l : List S64} (h : SmallT l) (i : Nat) (hi : i < l.length) : (rd_T64 l (i : Int)).f1.size ≤ 1048576 ∧ (rd_T64 l (i : Int)).f3.size ≤ 1048576 ∧ (rd_T64 l (i : Int)).f2.length ≤ 1048576 ∧ (rd_T64 l (i : Int)).f5.length ≤ 1048576 := by
 rw [rdT l i hi]; exact h.2 _ (List.getElem_mem _)
theorem isNode_eq (l : List S64) (hl : l.length ≤ 1048576) (u : Int) : zq33.f l u = some (nodeIn l u) := by
 unfold zq33.f
 rw [inRange_eq, w64 (by omega) (by omega)]; rfl
theorem isAbove_l0 (l : List S64) (hl : l.length ≤ 1048576) (i : Int) : ∀ (d j : Nat) (u : Int), j + d = l.length → Ev (fun k => zq19.l0 k i u (l.length : Int) (j : Int) l) (chI l i d u) := by
 intro d
 induction d with
 | zero =>
  intro j u h
  refine Ev.stop fun k => ?_
  simp only [zq19.l0]
  rw [if_neg (by omega), isNode_eq l hl]; rfl
 | succ d ih =>
  intro j u h
  refine Ev.shift ?_
  simp only [zq19.l0, chI]
  refine Ev.ite_pos (by omega) ?_
  by_cases e : u = i
  ·rw [if_pos e]; exact Ev.ite_pos e (Ev.rfl' fun _ => rfl)
  ·rw [if_neg e]
   refine Ev.ite_neg e (Ev.pre (isNode_eq l hl u) ?_)
   cases hn : nodeIn l u with
   | false => exact Ev.ite_neg (by simp) (Ev.rfl' fun _ => rfl)
   | true =>
    have hn' := hn
    simp only [nodeIn, Bool.and_eq_true, decide_eq_true_eq] at hn'
    refine Ev.ite_pos rfl (Ev.ite_pos hn'.1 (Ev.ite_pos (by omega) ?_))
    rw [w64_nat j (by omega), if_pos rfl]
    exact ih (j + 1) (par l u) (by omega)
theorem isAbove_ev (l : List S64) (hl : l.length ≤ 1048576) (i u : Int) : Ev (fun k => zq19.f k l i u) (chI l i l.length u) := by
 unfold zq19.f
 exact isAbove_l0 l hl i l.length 0 u (by omega)
def seenI (s : List Bool) : List Int := s.map fun b => if b = true then 1 else 0
theorem seenI_len (s : List Bool) : (seenI s).length = s.length := by simp [seenI]
theorem seenI_rd (s : List Bool) (i : Nat) (h : i < s.length) : rd (seenI s) (i : Int) = if rdOf false s (i : Int) = true then 1 else 0 := by
 rw [rd_eq _ i (by rw [seenI_len]; exact h), rdOf_eq _ s i h]; simp [seenI]
theorem seenI_set (s : List Bool) (i : Nat) : (seenI s).set i 1 = seenI (s.set i true) := by
 unfold seenI; rw [List.map_set]; rfl
theorem implLinks_l1 (l : List S64) (hl : l.length ≤ 1048576) (h0 : par l 0 = -1) (i : Nat) (kids : List Int) (hk : kids.length ≤ 1048576) (R : List Bool → Bool) : ∀ (d j : Nat) (s : List Bool), j + d = kids.length → s.length = l.length →
  (∀ s', scan l (i : Int) (kids.drop j) s = some s' → Ev (fun k => zq15.l0 k (seenI s') l (l.length : Int) (wrap64 ((i : Int) + 1)) l) (R s')) →
  Ev (fun k => zq15.l1 k (seenI s) (i : Int) l (l.length : Int) (i : Int) kids (kids.length : Int) (j : Int) l) (match scan l (i : Int) (kids.drop j) s with | none => false | some s' => R s') := by
 intro d
 induction d with
 | zero =>
  intro j s h hs hR
  rw [List.drop_eq_nil_of_le (by omega)] at hR ⊢
  refine Ev.shift ?_
  simp only [zq15.l1, scan]
  exact Ev.ite_neg (by omega) (hR s rfl)
 | succ d ih =>
  intro j s h hs hR
  have hj : j < kids.length := by omega
  rw [List.drop_eq_getElem_cons hj] at hR ⊢
  refine Ev.shift ?_
  simp only [zq15.l1]
  rw [rd_eq kids j hj]
  generalize kids[j] = x at hR ⊢
  refine Ev.ite_pos (by omega) (Ev.ite_pos (by omega) (Ev.ite_pos (by omega) (Ev.pre (isNode_eq l hl x) ?_)))
  simp only [scan] at hR ⊢
  cases hn : nodeIn l x with
  | false =>
   have : ((decide (1 ≤ x) && decide (x ≤ (l.length : Int) - 1)) && (!(rdOf false s x) && par l x == (i : Int))) = false := by
    simp only [nodeIn, Bool.and_eq_false_iff, decide_eq_false_iff_not] at hn
    have : (decide (1 ≤ x) && decide (x ≤ (l.length : Int) - 1)) = false := by
     rw [Bool.and_eq_false_iff, decide_eq_false_iff_not, decide_eq_false_iff_not]; omega
    rw [this]; rfl
   rw [if_neg (by rw [this]; simp)]
   exact Ev.ite_neg (by simp) (Ev.rfl' fun _ => rfl)
  | true =>
   have hn' := hn
   simp only [nodeIn, Bool.and_eq_true, decide_eq_true_eq] at hn'
   refine Ev.ite_pos rfl (Ev.ite_pos hn'.1 (Ev.ite_pos (by omega) ?_))
   by_cases hp : par l x = (i : Int)
   ·refine Ev.ite_pos hp (Ev.ite_pos (by rw [seenI_len]; omega) ?_)
    have hx1 : 1 ≤ x := by
     rcases Int.lt_or_le x 1 with h1 | h1
     ·have : x = 0 := by omega
      rw [this, h0] at hp; omega
     ·exact h1
    have hr := seenI_rd s x.toNat (by omega)
    rw [show ((x.toNat : Nat) : Int) = x from by omega] at hr
    rw [hr]
    cases hsn : rdOf false s x with
    | true =>
     rw [if_pos (rfl : true = true), if_neg (by rw [show (!true && par l x == (i : Int)) = false from rfl, Bool.and_false]; simp)]
     exact Ev.ite_pos (by omega) (Ev.rfl' fun _ => rfl)
    | false =>
     have hc : ((decide (1 ≤ x) && decide (x ≤ (l.length : Int) - 1)) && (!false && par l x == (i : Int))) = true := by
      rw [decide_eq_true hx1, decide_eq_true hn'.2, hp]; simp
     rw [hsn] at hR
     rw [if_pos hc] at hR
     rw [if_neg (by simp : ¬ (false = true)), if_pos hc]
     refine Ev.ite_neg (by omega) ?_
     rw [show wrap64 ((0 : Int) + 1) = 1 from by unfold wrap64; omega, w64_nat j (by omega), seenI_set]
     exact ih (j + 1) _ (by omega) (by rw [List.length_set]; exact hs) hR
   ·rw [if_neg (by rw [show (par l x == (i : Int)) = false from beq_eq_false_iff_ne.2 hp]; simp)]
    exact Ev.ite_neg hp (Ev.rfl' fun _ => rfl)
theorem implLinks_l2 (l : List S64) (hl : l.length ≤ 1048576) (s : List Bool) (hs : s.length = l.length) : ∀ (d i : Nat), i + d = l.length → Ev (fun k => zq15.l2 k (seenI s) l (l.length : Int) (i : Int) l) (lastI l s d i) := by
 intro d
 induction d with
 | zero =>
  intro i h
  refine Ev.stop fun k => ?_
  simp only [zq15.l2, lastI]
  rw [if_neg (by omega)]
 | succ d ih =>
  intro i h
  refine Ev.shift ?_
  simp only [zq15.l2, lastI]
  rw [seenI_rd s i (by omega)]
  refine Ev.ite_pos (by omega) (Ev.ite_pos (by omega) (Ev.ite_pos (by omega) (Ev.ite_pos (by rw [seenI_len]; omega) ?_)))
  have hd : decide ((if rdOf false s (i : Int) = true then (1 : Int) else 0) > 0) = rdOf false s (i : Int) := by
   cases rdOf false s (i : Int) <;> rfl
  rw [hd]
  show Ev (fun k => if ((par l (i : Int) == -1) == rdOf false s (i : Int)) = true then _ else _) _
  cases hc : ((par l (i : Int) == -1) == rdOf false s (i : Int)) with
  | true => exact Ev.ite_pos rfl (Ev.rfl' fun _ => rfl)
  | false =>
   refine Ev.ite_neg (by simp) (Ev.bind (isAbove_ev l hl (i : Int) (par l (i : Int))) ?_)
   cases ha : chI l (i : Int) l.length (par l (i : Int)) with
   | true => exact Ev.ite_pos rfl (Ev.rfl' fun _ => rfl)
   | false =>
    refine Ev.ite_neg (by simp) ?_
    rw [w64_nat i (by omega)]
    simpa using ih (i + 1) (by omega)
theorem implLinks_l0 (l : List S64) (hl : SmallT l) (h0 : par l 0 = -1) : ∀ (d i : Nat) (s : List Bool), i + d = l.length → s.length = l.length → Ev (fun k => zq15.l0 k (seenI s) l (l.length : Int) (i : Int) l) (match scanAll l d i s with | none => false | some s => lastI l s l.length 0) := by
 intro d
 induction d with
 | zero =>
  intro i s h hs
  refine Ev.shift ?_
  simp only [zq15.l0, scanAll]
  exact Ev.ite_neg (by omega) (implLinks_l2 l hl.1 s hs l.length 0 (by omega))
 | succ d ih =>
  intro i s h hs
  refine Ev.shift ?_
  simp only [zq15.l0, scanAll]
  have hk := (hl.at_ i (by omega)).2.2.2
  refine Ev.ite_pos (by omega) (Ev.ite_pos (by omega) (Ev.ite_pos (by omega) ?_))
  have := implLinks_l1 l hl.1 h0 i (rd_T64 l (i : Int)).f5 hk (fun s' => match scanAll l d (i + 1) s' with | none => false | some s => lastI l s l.length 0) (rd_T64 l (i : Int)).f5.length 0 s (by omega) hs (fun s' h1 => by
   have hwl : wrap64 ((i : Int) + 1) = ((i + 1 : Nat) : Int) := w64_nat i (by have := hl.1; omega)
   rw [hwl]
   exact ih (i + 1) s' (by omega) (by rw [scan_len _ _ _ _ _ h1]; exact hs))
  rw [List.drop_zero] at this
  cases hsc : scan l (i : Int) (rd_T64 l (i : Int)).f5 s with
  | none => rw [hsc] at this; exact this
  | some s1 => rw [hsc] at this; exact this
theorem implLinks_ev (l : List S64) (hl : SmallT l) (h0 : par l 0 = -1) : Ev (fun k => zq15.f k l) (match kidsOk l with | none => false | some s => lastI l s l.length 0) := by
 unfold zq15.f
 have h1 := hl.1
 refine Ev.ite_pos (by omega) (Ev.ite_pos (by omega) ?_)
 rw [Int.toNat_natCast, show List.replicate l.length (0 : Int) = seenI (List.replicate l.length false) from by simp [seenI]]
 exact implLinks_l0 l hl h0 l.length 0 _ (by omega) (by simp)
theorem implTree_l0 (l : List S64) (hl : SmallT l) (h1 : 0 < l.length) : ∀ (d i : Nat), i + d = l.length → (0 < i → par l 0 = -1) → Ev (fun k => zq35.l0 k l (l.length : Int) (i : Int) l) (nodesI l d i && (match kidsOk l with | none => false | some s => lastI l s l.length 0)) := by
 intro d
 induction d with
 | zero =>
  intro i h hp
  refine Ev.shift ?_
  simp only [zq35.l0, nodesI, Bool.true_and]
  exact Ev.ite_neg (by omega) (Ev.bind (implLinks_ev l hl (hp (by omega))) (Ev.rfl' fun _ => rfl))
 | succ d ih =>
  intro i h hp
  have hb := hl.at_ i (by omega)
  have hl1 := hl.1
  refine Ev.shift ?_
  simp only [zq35.l0, nodesI]
  refine Ev.ite_pos (by omega) (Ev.ite_pos (by omega) (Ev.ite_pos (by omega) (Ev.bind (implNode_ev (rd_T64 l (i : Int)) (i : Int) (by omega) (by omega)) ?_)))
  cases hn : nodeAt (rd_T64 l (i : Int)) (i : Int) with
  | false => exact Ev.ite_neg (by simp) (Ev.rfl' fun _ => rfl)
  | true =>
   refine Ev.ite_pos rfl ?_
   have hp' : par l 0 = -1 := by
    by_cases e : i = 0
    ·subst e
     simp only [nodeAt, Bool.and_eq_true, Bool.or_eq_true, Bool.not_eq_true', beq_eq_false_iff_ne, beq_iff_eq] at hn
     have h2 := hn.1.2
     rw [show (((0 : Nat) : Int) == 0) = true from rfl, beq_iff_eq] at h2
     rcases hn.2 with h3 | h3
     ·exact absurd h2 h3
     ·exact h3
    ·exact hp (by omega)
   rw [w64_nat i (by omega), Bool.true_and]
   exact ih (i + 1) (by omega) (fun _ => hp')
theorem implTree_ev (l : List S64) (hl : SmallT l) : Ev (fun k => zq35.f k l) (treeI l) := by
 unfold zq35.f treeI
 refine Ev.pre (inRange_eq _ _ _) ?_
 rw [show (decide (1 ≤ (l.length : Int)) && decide ((l.length : Int) ≤ 500)) = (decide (1 ≤ l.length) && decide (l.length ≤ 500)) from by
  rw [show decide (1 ≤ (l.length : Int)) = decide (1 ≤ l.length) from by rw [decide_eq_decide]; omega, show decide ((l.length : Int) ≤ 500) = decide (l.length ≤ 500) from by rw [decide_eq_decide]; omega]]
 cases h : decide (1 ≤ l.length) && decide (l.length ≤ 500) with
 | false => exact Ev.ite_neg (by simp) (Ev.rfl' fun _ => rfl)
 | true =>
  simp only [Bool.and_eq_true, decide_eq_true_eq] at h
  exact Ev.ite_pos rfl (implTree_l0 l hl (by omega) l.length 0 (by omega) (fun h => absurd h (by omega)))

/-! The reference's walk -/
theorem specTree_l1 (l : List S64) (hl : l.length ≤ 1048576) (i : Nat) (x : S64) (hk : x.f5.length ≤ 1048576) (R : List Bool → Bool) : ∀ (d j : Nat) (s : List Bool), j + d = x.f5.length → s.length = l.length →
  (∀ s', scan l (i : Int) (x.f5.drop j) s = some s' → Ev (fun k => zq11.l0 k (l.length : Int) s' (wrap64 ((i : Int) + 1)) l) (R s')) →
  Ev (fun k => zq11.l1 k (l.length : Int) s (i : Int) (j : Int) l x.f0 x.f1 x.f2 x.f3 x.f4 x.f5) (match scan l (i : Int) (x.f5.drop j) s with | none => false | some s' => R s') := by
 intro d
 induction d with
 | zero =>
  intro j s h hs hR
  rw [List.drop_eq_nil_of_le (by omega)] at hR ⊢
  refine Ev.shift ?_
  simp only [zq11.l1, scan]
  exact Ev.ite_neg (by omega) (hR s rfl)
 | succ d ih =>
  intro j s h hs hR
  have hj : j < x.f5.length := by omega
  rw [List.drop_eq_getElem_cons hj] at hR ⊢
  refine Ev.shift ?_
  simp only [zq11.l1]
  rw [rd_eq x.f5 j hj, w64 (x := (l.length : Int) - 1) (by omega) (by omega)]
  generalize x.f5[j] = y at hR ⊢
  refine Ev.ite_pos (by omega) (Ev.ite_pos (by omega) (Ev.pre (l1In_eq _ _ _) ?_))
  simp only [scan] at hR ⊢
  cases hn : decide (1 ≤ y) && decide (y ≤ (l.length : Int) - 1) with
  | false =>
   rw [if_neg (by simp)]
   exact Ev.ite_neg (by simp) (Ev.rfl' fun _ => rfl)
  | true =>
   rw [hn] at hR
   have hn' := hn
   simp only [Bool.and_eq_true, decide_eq_true_eq] at hn'
   refine Ev.ite_pos rfl (Ev.ite_pos (by omega) (Ev.ite_pos (by omega) ?_))
   cases hsn : rdOf false s y with
   | true =>
    rw [if_neg (by simp)]
    exact Ev.ite_pos rfl (Ev.rfl' fun _ => rfl)
   | false =>
    rw [hsn] at hR
    refine Ev.ite_neg (by simp) (Ev.ite_pos (by omega) ?_)
    by_cases hp : par l y = (i : Int)
    ·rw [if_pos (by rw [hp]; simp)] at hR ⊢
     refine Ev.ite_pos hp ?_
     rw [w64_nat j (by omega)]
     exact ih (j + 1) _ (by omega) (by rw [List.length_set]; exact hs) hR
    ·rw [if_neg (by rw [show (par l y == (i : Int)) = false from beq_eq_false_iff_ne.2 hp]; simp)]
     exact Ev.ite_neg hp (Ev.rfl' fun _ => rfl)
theorem specTree_l3 (l : List S64) (hl : l.length ≤ 1048576) (hr : ∀ u, nodeIn l u = true → -1 ≤ par l u ∧ par l u ≤ (l.length : Int) - 1) (s : List Bool) (i : Nat) (r : Bool) (hR : Ev (fun k => zq11.l2 k (l.length : Int) s (wrap64 ((i : Int) + 1)) l) r) : ∀ (d c : Nat) (u : Int), c + d = l.length + 1 → -1 ≤ u → u ≤ (l.length : Int) - 1 →
  Ev (fun k => zq11.l3 k (l.length : Int) s (i : Int) u (c : Int) l) (chS l d u && r) := by
 intro d
 induction d with
 | zero =>
  intro c u h h1 h2
  refine Ev.shift ?_
  simp only [zq11.l3, chS]
  by_cases hu : u ≥ 0
  ·rw [decide_eq_true hu]
   exact Ev.ite_pos hu (Ev.ite_pos (by omega) (Ev.rfl' fun _ => rfl))
  ·rw [decide_eq_false hu]
   exact Ev.ite_neg hu (by simpa using hR)
 | succ d ih =>
  intro c u h h1 h2
  refine Ev.shift ?_
  simp only [zq11.l3, chS]
  by_cases hu : u ≥ 0
  ·have hn : nodeIn l u = true := by simp [nodeIn, h2, show 0 ≤ u from hu]
   rw [if_pos hu]
   refine Ev.ite_pos hu (Ev.ite_neg (by omega) (Ev.ite_pos (by omega) (Ev.ite_pos (by omega) ?_)))
   rw [w64_nat c (by omega)]
   exact ih (c + 1) (par l u) (by omega) (hr u hn).1 (hr u hn).2
  ·rw [if_neg hu]
   exact Ev.ite_neg hu (by simpa using hR)
theorem specTree_l2 (l : List S64) (hl : l.length ≤ 1048576) (hr : ∀ u, nodeIn l u = true → -1 ≤ par l u ∧ par l u ≤ (l.length : Int) - 1) (s : List Bool) (hs : s.length = l.length) : ∀ (d i : Nat), i + d = l.length → Ev (fun k => zq11.l2 k (l.length : Int) s (i : Int) l) (lastS l s d i) := by
 intro d
 induction d with
 | zero =>
  intro i h
  refine Ev.stop fun k => ?_
  simp only [zq11.l2, lastS]
  rw [if_neg (by omega)]
 | succ d ih =>
  intro i h
  refine Ev.shift ?_
  simp only [zq11.l2]
  rw [lastS]
  refine Ev.ite_pos (by omega) (Ev.ite_pos (by omega) (Ev.ite_pos (by omega) (Ev.ite_pos (by omega) ?_)))
  show Ev (fun k => if (rdOf false s (i : Int) != decide (par l (i : Int) ≥ 0)) = true then _ else _) _
  cases hc : (rdOf false s (i : Int) != decide (par l (i : Int) ≥ 0)) with
  | true =>
   have : (rdOf false s (i : Int) == decide (par l (i : Int) ≥ 0)) = false := by
    cases h1 : rdOf false s (i : Int) <;> cases h2 : decide (par l (i : Int) ≥ 0) <;> simp_all
   rw [this]
   exact Ev.ite_pos rfl (Ev.rfl' fun _ => rfl)
  | false =>
   have : (rdOf false s (i : Int) == decide (par l (i : Int) ≥ 0)) = true := by
    cases h1 : rdOf false s (i : Int) <;> cases h2 : decide (par l (i : Int) ≥ 0) <;> simp_all
   rw [this, Bool.true_and]
   refine Ev.ite_neg (by simp) ?_
   have h3 := ih (i + 1) (by omega)
   rw [← w64_nat i (by omega)] at h3
   exact specTree_l3 l hl hr s i _ h3 (l.length + 1) 0 (i : Int) (by omega) (by omega) (by omega)
theorem specTree_l0 (l : List S64) (hl : SmallT l) : ∀ (d i : Nat) (s : List Bool), i + d = l.length → s.length = l.length → (∀ j : Nat, j < i → -1 ≤ par l (j : Int) ∧ par l (j : Int) ≤ (l.length : Int) - 1) → Ev (fun k => zq11.l0 k (l.length : Int) s (i : Int) l) (loopS l d i s) := by
 intro d
 induction d with
 | zero =>
  intro i s h hs hp
  refine Ev.shift ?_
  simp only [zq11.l0, loopS]
  refine Ev.ite_neg (by omega) (specTree_l2 l hl.1 (fun u hu => ?_) s hs l.length 0 (by omega))
  simp only [nodeIn, Bool.and_eq_true, decide_eq_true_eq] at hu
  have := hp u.toNat (by omega)
  rwa [show ((u.toNat : Nat) : Int) = u from by omega] at this
 | succ d ih =>
  intro i s h hs hp
  have hb := hl.at_ i (by omega)
  have hl1 := hl.1
  refine Ev.shift ?_
  simp only [zq11.l0, loopS]
  rw [w64 (x := (l.length : Int) - 1) (by omega) (by omega)]
  have no : Ev (fun k => zq11.j1 k (l.length : Int) s (i : Int) true l (rd_T64 l (i : Int)).f0 (rd_T64 l (i : Int)).f1 (rd_T64 l (i : Int)).f2 (rd_T64 l (i : Int)).f3 (rd_T64 l (i : Int)).f4 (rd_T64 l (i : Int)).f5) false := Ev.stop fun k => by simp only [zq11.j1]; rw [if_pos trivial]
  have yes : (-1 ≤ par l (i : Int) ∧ par l (i : Int) ≤ (l.length : Int) - 1) → Ev (fun k => zq11.j1 k (l.length : Int) s (i : Int) false l (rd_T64 l (i : Int)).f0 (rd_T64 l (i : Int)).f1 (rd_T64 l (i : Int)).f2 (rd_T64 l (i : Int)).f3 (rd_T64 l (i : Int)).f4 (rd_T64 l (i : Int)).f5) (match scan l (i : Int) (rd_T64 l (i : Int)).f5 s with | none => false | some s => loopS l d (i + 1) s) := by
   intro hr
   refine Ev.shift ?_
   simp only [zq11.j1]
   refine Ev.ite_neg (by simp) ?_
   have := specTree_l1 l hl.1 i (rd_T64 l (i : Int)) hb.2.2.2 (fun s' => loopS l d (i + 1) s') (rd_T64 l (i : Int)).f5.length 0 s (by omega) hs (fun s' h1 => by
    have hwl : wrap64 ((i : Int) + 1) = ((i + 1 : Nat) : Int) := w64_nat i (by omega)
    rw [hwl]
    refine ih (i + 1) s' (by omega) (by rw [scan_len _ _ _ _ _ h1]; exact hs) (fun j hj => ?_)
    rcases Nat.lt_or_ge j i with h2 | h2
    ·exact hp j h2
    ·rw [show j = i from by omega]; exact hr)
   rw [List.drop_zero] at this
   exact this
  refine Ev.ite_pos (by omega) (Ev.ite_pos (by omega) (Ev.ite_pos (by omega) (Ev.bind (specNode_ev (rd_T64 l (i : Int)) (by omega) (by omega)) ?_)))
  unfold nodeS
  cases hn : nodeB (rd_T64 l (i : Int)) with
  | false => exact Ev.ite_neg (by simp) (by simpa using no)
  | true =>
   refine Ev.ite_pos rfl ?_
   cases hc : (((rd_T64 l (i : Int)).f0 == 1) != ((i : Int) == 0)) with
   | true =>
    have : (((rd_T64 l (i : Int)).f0 == 1) == ((i : Int) == 0)) = false := by
     cases h1 : ((rd_T64 l (i : Int)).f0 == 1) <;> cases h2 : ((i : Int) == 0) <;> simp_all
    rw [this]
    exact Ev.ite_pos rfl (by simpa using no)
   | false =>
    have : (((rd_T64 l (i : Int)).f0 == 1) == ((i : Int) == 0)) = true := by
     cases h1 : ((rd_T64 l (i : Int)).f0 == 1) <;> cases h2 : ((i : Int) == 0) <;> simp_all
    rw [this]
    refine Ev.ite_neg (by simp) (Ev.pre (x := decide (-1 ≤ par l (i : Int)) && decide (par l (i : Int) ≤ (l.length : Int) - 1)) (l1In_eq _ _ _) ?_)
    cases hr : decide (-1 ≤ par l (i : Int)) && decide (par l (i : Int) ≤ (l.length : Int) - 1) with
    | false => exact Ev.ite_neg (by simp) (by simpa using no)
    | true =>
     have hr' := hr
     simp only [Bool.and_eq_true, decide_eq_true_eq] at hr'
     refine Ev.ite_pos rfl ?_
     by_cases e : (i : Int) = 0
     ·refine Ev.ite_pos e ?_
      show Ev (fun k => zq11.j1 k (l.length : Int) s (i : Int) (par l (i : Int) != -1) l _ _ _ _ _ _) _
      cases hp1 : (par l (i : Int) != -1) with
      | true =>
       have h1 : (par l (i : Int) == -1) = false := by simpa using hp1
       rw [h1, show ((i : Int) == 0) = true from beq_iff_eq.2 e]
       simpa using no
      | false =>
       have h1 : (par l (i : Int) == -1) = true := by simpa using hp1
       rw [h1]
       simpa using yes hr'
     ·refine Ev.ite_neg e ?_
      rw [show ((i : Int) == 0) = false from beq_eq_false_iff_ne.2 e]
      simpa using yes hr'
theorem specTree_ev (l : List S64) (hl : SmallT l) : Ev (fun k => zq11.f k l) (treeI l) := by
 rw [← tree_agree]
 unfold zq11.f treeS
 have hl1 := hl.1
 refine Ev.pre (l1In_eq _ _ _) ?_
 rw [show (decide (1 ≤ (l.length : Int)) && decide ((l.length : Int) ≤ 500)) = (decide (1 ≤ l.length) && decide (l.length ≤ 500)) from by
  rw [show decide (1 ≤ (l.length : Int)) = decide (1 ≤ l.length) from by rw [decide_eq_decide]; omega, show decide ((l.length : Int) ≤ 500) = decide (l.length ≤ 500) from by rw [decide_eq_decide]; omega]]
 cases h : decide (1 ≤ l.length) && decide (l.length ≤ 500) with
 | false => exact Ev.ite_neg (by simp) (Ev.rfl' fun _ => rfl)
 | true =>
  refine Ev.ite_pos rfl (Ev.ite_pos (by omega) (Ev.ite_pos (by omega) ?_))
  rw [Int.toNat_natCast]
  exact specTree_l0 l hl l.length 0 _ (by omega) (by simp) (fun j hj => absurd hj (by omega))
end Go.Proofs.Ytpojadoklfdfiaa.P

namespace Go.Proofs.Ytpojadoklfdfiaa.P
open Go.RowKit Go.Proofs.YtpojadoklfdfiaaW.PrintWords Go.Proofs.Ytpojadoklfdfiaa.G
set_option linter.unusedVariables false

theorem toIntS_l0 (l : List Int) (hl : l.length < 1099511627776) : ∀ (d i : Nat) (x : List Int), i + d = l.length → x.length = l.length → x.take i = l.take i → Ev (fun k => zq13.l0 k l x (i : Int)) l := by
 intro d
 induction d with
 | zero =>
  intro i x hi hx ht
  refine Ev.stop fun k => ?_
  have : x = l := by rw [← List.take_of_length_le (l := x) (i := i) (by omega), ht, List.take_of_length_le (by omega)]
  simp only [zq13.l0]; rw [if_neg (by omega), this]
 | succ d ih =>
  intro i x hi hx ht
  refine Ev.step (f := fun k => zq13.l0 k l (x.set i l[i]) ((i + 1 : Nat) : Int)) (fun k => ?_) (ih (i + 1) _ (by omega) (by simpa using hx) (take_set_succ l x i ht (by omega) (by omega)))
  simp only [zq13.l0]
  rw [if_pos (by omega), if_pos (by omega), if_pos (by omega), w64_nat i (by omega), rd_eq l i (by omega)]
  simp
theorem toIntS_ev (l : List Int) (hl : l.length < 1099511627776) : Ev (fun k => zq13.f k l) l := by
 unfold zq13.f
 refine Ev.ite_pos (by omega) (Ev.ite_pos (by simp; omega) ?_)
 exact toIntS_l0 l hl l.length 0 _ (by omega) (by simp) (by simp)

theorem eqIntS_l0 (a b : List Int) (hl : a.length < 1099511627776) (he : a.length = b.length) : ∀ (d i : Nat), i + d = a.length → a.take i = b.take i → Ev (fun k => zq16.l0 k a b (i : Int)) (decide (a = b)) := by
 intro d
 induction d with
 | zero =>
  intro i hi ht
  refine Ev.stop fun k => ?_
  have : a = b := by rw [← List.take_of_length_le (l := a) (i := i) (by omega), ht, List.take_of_length_le (by omega)]
  simp only [zq16.l0]; rw [if_neg (by omega)]; simp [this]
 | succ d ih =>
  intro i hi ht
  by_cases h : a[i] = b[i]
  ·refine Ev.step (f := fun k => zq16.l0 k a b ((i + 1 : Nat) : Int)) (fun k => ?_) (ih (i + 1) (by omega) (by rw [List.take_succ_eq_append_getElem (by omega), List.take_succ_eq_append_getElem (by omega), ht, h]))
   simp only [zq16.l0]
   rw [if_pos (by omega), if_pos (by omega), if_pos (by omega), rd_eq a i (by omega), rd_eq b i (by omega)]
   simp only [h, w64_nat i (show i < 9223372036854775807 by omega)]
   simp
  ·refine Ev.stop fun k => ?_
   simp only [zq16.l0]
   rw [if_pos (by omega), if_pos (by omega), if_pos (by omega), rd_eq a i (by omega), rd_eq b i (by omega)]
   have hn : ¬ a = b := fun e => h (by subst e; rfl)
   simp [h, hn]
theorem eqIntS_ev (a b : List Int) (hl : a.length < 1099511627776) : Ev (fun k => zq16.f k a b) (decide (a = b)) := by
 unfold zq16.f
 by_cases he : a.length = b.length
 ·refine Ev.ite_pos (by omega) ?_
  exact eqIntS_l0 a b hl he a.length 0 (by omega) (by simp)
 ·refine Ev.ite_neg (by omega) (Ev.rfl' fun k => ?_)
  have hn : ¬ a = b := fun e => he (by rw [e])
  simp [hn]
theorem eqIntS_self (a : List Int) (hl : a.length < 1099511627776) : Ev (fun k => zq16.f k a a) true := by
 have := eqIntS_ev a a hl
 simpa using this

end Go.Proofs.Ytpojadoklfdfiaa.P

namespace Go.Proofs.Ytpojadoklfdfiaa.P
open Go.RowKit Go.Proofs.YtpojadoklfdfiaaW.PrintWords Go.Proofs.Ytpojadoklfdfiaa.G
set_option linter.unusedVariables false
set_option linter.unusedSimpArgs false

theorem szAttr_ev (x y : ByteArray) (a : Int) (hx : x.size ≤ 140737488351232) (hy : y.size ≤ 140737488351232) (h0 : 0 ≤ a) (h1 : a ≤ 1048576) : ∃ r, laws_szAttr.f x y a = some r ∧ (r < 0 ∨ (0 ≤ r ∧ r ≤ a)) := by
 unfold laws_szAttr.f
 rw [w64 (x := a - (x.size : Int)) (by omega) (by omega), w64 (by omega) (by omega)]
 by_cases c1 : a - (x.size : Int) < 0
 ·exact ⟨-1, if_pos c1, .inl (by omega)⟩
 ·by_cases c2 : a - (x.size : Int) - (y.size : Int) < 0
  ·exact ⟨-1, by rw [if_neg c1, if_pos c2], .inl (by omega)⟩
  ·exact ⟨_, by rw [if_neg c1, if_neg c2], .inr (by omega)⟩
theorem szAttrS_l0 (l : List S124) (hl : l.length < 17592186044416) (hs : ∀ s ∈ l, s.f0.size ≤ 140737488351232 ∧ s.f1.size ≤ 140737488351232) : ∀ (d i : Nat) (a : Int), i + d = l.length → 0 ≤ a → a ≤ 1048576 →
  ∃ r, Ev (fun k => zq49.l0 k l a (i : Int)) r ∧ (r < 0 ∨ (0 ≤ r ∧ r ≤ a)) := by
 intro d
 induction d with
 | zero =>
  intro i a hi ha hb
  refine ⟨a, Ev.stop fun k => ?_, .inr ⟨ha, Int.le_refl _⟩⟩
  simp only [zq49.l0]; rw [if_neg (by omega)]
 | succ d ih =>
  intro i a hi ha hb
  have hm := hs l[i] (List.getElem_mem _)
  have hg : rd_T124 l (i : Int) = l[i] := getD_eq _ l i (by omega)
  obtain ⟨r, h1, h2⟩ := szAttr_ev l[i].f0 l[i].f1 a hm.1 hm.2 ha hb
  by_cases hn : r < 0
  ·refine ⟨-1, Ev.stop fun k => ?_, .inl (by omega)⟩
   simp only [zq49.l0]
   rw [if_pos (by omega), if_pos (by omega), hg, h1]
   simp only [Option.bind_some]; rw [if_pos hn]
  ·have h3 := h2.resolve_left hn
   obtain ⟨r', h4, h5⟩ := ih (i + 1) r (by omega) (by omega) (by omega)
   refine ⟨r', Ev.step (f := fun k => zq49.l0 k l r ((i + 1 : Nat) : Int)) (fun k => ?_) h4, ?_⟩
   ·simp only [zq49.l0]
    rw [if_pos (by omega), if_pos (by omega), hg, h1]
    simp only [Option.bind_some]; rw [if_neg hn, w64_nat i (by omega)]
   ·rcases h5 with h5 | h5
    ·exact .inl h5
    ·exact .inr (by omega)
theorem szAttrS_ev (l : List S124) (a : Int) (hl : l.length < 17592186044416) (hs : ∀ s ∈ l, s.f0.size ≤ 140737488351232 ∧ s.f1.size ≤ 140737488351232) (ha : 0 ≤ a) (hb : a ≤ 1048576) :
  ∃ r, Ev (fun k => zq49.f k l a) r ∧ (r < 0 ∨ (0 ≤ r ∧ r ≤ a ∧ l.length ≤ 1048576)) := by
 by_cases hn : a - (l.length : Int) < 0
 ·refine ⟨-1, Ev.rfl' fun k => ?_, .inl (by omega)⟩
  unfold zq49.f
  rw [w64 (by omega) (by omega), if_pos hn]
 ·obtain ⟨r, h1, h2⟩ := szAttrS_l0 l hl hs l.length 0 (a - (l.length : Int)) (by omega) (by omega) (by omega)
  refine ⟨r, Ev.congr (fun k => ?_) h1, ?_⟩
  ·unfold zq49.f
   rw [w64 (by omega) (by omega), if_neg hn]; rfl
  ·rcases h2 with h2 | h2
   ·exact .inl h2
   ·exact .inr (by omega)
/-- Within the row's own reach. -/
def ReachN (x : S88) : Prop := ((Lit.int .i64 x.f0).wf = true ∧ x.f1.size ≤ 140737488351232 ∧ (x.f2.length * 32 ≤ 140737488351232 ∧ ∀ x6_ ∈ x.f2, (x6_.f0.size ≤ 140737488351232 ∧ x6_.f1.size ≤ 140737488351232)) ∧ x.f3.size ≤ 140737488351232 ∧ (Lit.int .i64 x.f4).wf = true ∧ (x.f5.length * 8 ≤ 140737488351232 ∧ ∀ x6_ ∈ x.f5, (Lit.int .i64 x6_).wf = true))
def SmallN (x : S88) : Prop := x.f1.size ≤ 1048576 ∧ x.f3.size ≤ 1048576 ∧ x.f2.length ≤ 1048576 ∧ x.f5.length ≤ 1048576
theorem szNode_ev (x : S88) (a : Int) (hx : ReachN x) (h0 : 0 ≤ a) (h1 : a ≤ 1048576) : ∃ r, Ev (fun k => laws_szNode.f k x.f0 x.f1 x.f2 x.f3 x.f4 x.f5 a) r ∧ (r < 0 ∨ (0 ≤ r ∧ r ≤ a ∧ SmallN x)) := by
 obtain ⟨_, s1, ⟨s2, s2'⟩, s3, _, ⟨s5, _⟩⟩ := hx
 unfold laws_szNode.f
 rw [w64 (x := a - (x.f1.size : Int)) (by omega) (by omega)]
 by_cases c1 : a - (x.f1.size : Int) < 0
 ·exact ⟨-1, Ev.ite_pos c1 (Ev.rfl' fun _ => rfl), .inl (by omega)⟩
 ·obtain ⟨r, h2, h3⟩ := szAttrS_ev x.f2 (a - (x.f1.size : Int)) (by omega) s2' (by omega) (by omega)
  by_cases c2 : r < 0
  ·exact ⟨-1, Ev.ite_neg c1 (Ev.bind h2 (Ev.ite_pos c2 (Ev.rfl' fun _ => rfl))), .inl (by omega)⟩
  ·have h4 := h3.resolve_left c2
   by_cases c3 : r - (x.f3.size : Int) < 0
   ·exact ⟨-1, Ev.ite_neg c1 (Ev.bind h2 (Ev.ite_neg c2 (Ev.ite_pos (by rw [w64 (by omega) (by omega)]; exact c3) (Ev.rfl' fun _ => rfl)))), .inl (by omega)⟩
   ·by_cases c4 : r - (x.f3.size : Int) - (x.f5.length : Int) < 0
    ·refine ⟨-1, Ev.ite_neg c1 (Ev.bind h2 (Ev.ite_neg c2 (Ev.ite_neg (by rw [w64 (by omega) (by omega)]; exact c3) (Ev.pre (x := -1) ?_ (Ev.ite_pos (by omega) (Ev.rfl' fun _ => rfl)))))), .inl (by omega)⟩
     unfold laws_szIntS.f
     rw [w64 (x := r - (x.f3.size : Int)) (by omega) (by omega), w64 (by omega) (by omega), if_pos c4]
    ·refine ⟨r - (x.f3.size : Int) - (x.f5.length : Int), Ev.ite_neg c1 (Ev.bind h2 (Ev.ite_neg c2 (Ev.ite_neg (by rw [w64 (by omega) (by omega)]; exact c3) (Ev.pre (x := r - (x.f3.size : Int) - (x.f5.length : Int)) ?_ (Ev.ite_neg c4 (Ev.rfl' fun _ => rfl)))))), .inr ⟨by omega, by omega, by omega, by omega, h4.2.2, by omega⟩⟩
     unfold laws_szIntS.f
     rw [w64 (x := r - (x.f3.size : Int)) (by omega) (by omega), w64 (by omega) (by omega), if_neg c4]
theorem szNodeS_l0 (l : List S88) (hl : l.length < 17592186044416) (hs : ∀ x ∈ l, ReachN x) : ∀ (d i : Nat) (a : Int), i + d = l.length → 0 ≤ a → a ≤ 1048576 →
  ∃ r, Ev (fun k => zq57.l0 k l a (i : Int)) r ∧ (r < 0 ∨ (0 ≤ r ∧ r ≤ a ∧ ∀ x ∈ l.drop i, SmallN x)) := by
 intro d
 induction d with
 | zero =>
  intro i a hi ha hb
  refine ⟨a, Ev.stop fun k => ?_, .inr ⟨ha, Int.le_refl _, ?_⟩⟩
  ·simp only [zq57.l0]; rw [if_neg (by omega)]
  ·rw [List.drop_eq_nil_of_le (by omega)]; simp
 | succ d ih =>
  intro i a hi ha hb
  have hm := hs l[i] (List.getElem_mem _)
  have hg : rd_T88 l (i : Int) = l[i] := getD_eq _ l i (by omega)
  obtain ⟨r, h1, h2⟩ := szNode_ev l[i] a hm ha hb
  by_cases hn : r < 0
  ·refine ⟨-1, Ev.shift ?_, .inl (by omega)⟩
   simp only [zq57.l0]
   rw [hg]
   exact Ev.ite_pos (by omega) (Ev.ite_pos (by omega) (Ev.bind h1 (Ev.ite_pos hn (Ev.rfl' fun _ => rfl))))
  ·have h3 := h2.resolve_left hn
   obtain ⟨r', h4, h5⟩ := ih (i + 1) r (by omega) (by omega) (by omega)
   refine ⟨r', Ev.shift ?_, ?_⟩
   ·simp only [zq57.l0]
    rw [hg]
    refine Ev.ite_pos (by omega) (Ev.ite_pos (by omega) (Ev.bind h1 (Ev.ite_neg hn ?_)))
    rw [w64_nat i (by omega)]
    exact h4
   ·rcases h5 with h5 | h5
    ·exact .inl h5
    ·refine .inr ⟨h5.1, by omega, ?_⟩
     rw [List.drop_eq_getElem_cons (by omega)]
     intro x hx
     rcases List.mem_cons.1 hx with rfl | hx
     ·exact h3.2.2
     ·exact h5.2.2 x hx
/-- A tree of the law's within its reach. -/
def SmallL (l : List S88) : Prop := l.length ≤ 1048576 ∧ ∀ x ∈ l, SmallN x
theorem szTree_ev (l : List S88) (hl : l.length * 96 ≤ 140737488351232 ∧ ∀ x ∈ l, ReachN x) (a : Int) (h0 : 0 ≤ a) (h1 : a ≤ 1048576) : ∃ r, Ev (fun k => zq22.f k l a) r ∧ (r < 0 ∨ (0 ≤ r ∧ r ≤ a ∧ SmallL l)) := by
 unfold zq22.f
 by_cases hn : a - (l.length : Int) < 0
 ·refine ⟨-1, Ev.bind (a := -1) (Ev.rfl' fun k => ?_) (Ev.ite_pos (by omega) (Ev.rfl' fun _ => rfl)), .inl (by omega)⟩
  unfold zq57.f
  rw [w64 (by omega) (by omega), if_pos hn]
 ·obtain ⟨r, h2, h3⟩ := szNodeS_l0 l (by omega) hl.2 l.length 0 (a - (l.length : Int)) (by omega) (by omega) (by omega)
  have h4 : Ev (fun k => zq57.f k l a) r := by
   unfold zq57.f
   rw [w64 (by omega) (by omega)]
   exact Ev.ite_neg hn h2
  by_cases c : r < 0
  ·exact ⟨-1, Ev.bind h4 (Ev.ite_pos c (Ev.rfl' fun _ => rfl)), .inl (by omega)⟩
  ·have h5 := h3.resolve_left c
   exact ⟨r, Ev.bind h4 (Ev.ite_neg c (Ev.rfl' fun _ => rfl)), .inr ⟨h5.1, by omega, by omega, by simpa using h5.2.2⟩⟩

/-! Copies -/
def cvAttr (a : S124) : S106 := ⟨a.f0, a.f1⟩
def cvNode (x : S88) : S64 := ⟨x.f0, x.f1, x.f2.map cvAttr, x.f3, x.f4, x.f5⟩
theorem toAttrS_l0 (l : List S124) (hl : l.length < 1099511627776) : ∀ (d i : Nat) (x : List S106), i + d = l.length → x.length = l.length → x.take i = (l.take i).map cvAttr → Ev (fun k => zq56.l0 k l x (i : Int)) (l.map cvAttr) := by
 intro d
 induction d with
 | zero =>
  intro i x hi hx ht
  refine Ev.stop fun k => ?_
  have : x = l.map cvAttr := by rw [← List.take_of_length_le (l := x) (i := i) (by omega), ht, List.take_of_length_le (by omega)]
  simp only [zq56.l0]; rw [if_neg (by omega), this]
 | succ d ih =>
  intro i x hi hx ht
  refine Ev.step (f := fun k => zq56.l0 k l (x.set i (cvAttr l[i])) ((i + 1 : Nat) : Int)) (fun k => ?_) (ih (i + 1) _ (by omega) (by simpa using hx) (take_set_map cvAttr l x i ht (by omega) (by omega)))
  have hg : rd_T124 l (i : Int) = l[i] := getD_eq _ l i (by omega)
  simp only [zq56.l0, laws_toAttr.f]
  rw [if_pos (by omega), if_pos (by omega), hg]
  simp only [Option.bind_some]
  rw [if_pos (by omega), w64_nat i (by omega)]
  simp [cvAttr]
theorem toAttrS_ev (l : List S124) (hl : l.length ≤ 1048576) : Ev (fun k => zq56.f k l) (l.map cvAttr) := by
 unfold zq56.f
 refine Ev.ite_pos (by omega) (Ev.ite_pos (by simp; omega) ?_)
 exact toAttrS_l0 l (by omega) l.length 0 _ (by omega) (by simp) (by simp)
theorem toNode_ev (x : S88) (h : SmallN x) : Ev (fun k => laws_toNode.f k x.f0 x.f1 x.f2 x.f3 x.f4 x.f5) (x.f0, x.f1, x.f2.map cvAttr, x.f3, x.f4, x.f5) := by
 unfold laws_toNode.f
 have h5 := h.2.2.2
 exact Ev.bind (toAttrS_ev _ h.2.2.1) (Ev.bind (toIntS_ev x.f5 (by omega)) (Ev.rfl' fun _ => rfl))
theorem toNodeS_l0 (l : List S88) (hl : l.length < 1099511627776) (hs : ∀ x ∈ l, SmallN x) : ∀ (d i : Nat) (x : List S64), i + d = l.length → x.length = l.length → x.take i = (l.take i).map cvNode → Ev (fun k => zq60.l0 k l x (i : Int)) (l.map cvNode) := by
 intro d
 induction d with
 | zero =>
  intro i x hi hx ht
  refine Ev.stop fun k => ?_
  have : x = l.map cvNode := by rw [← List.take_of_length_le (l := x) (i := i) (by omega), ht, List.take_of_length_le (by omega)]
  simp only [zq60.l0]; rw [if_neg (by omega), this]
 | succ d ih =>
  intro i x hi hx ht
  have hn := ih (i + 1) (x.set i (cvNode l[i])) (by omega) (by simpa using hx) (take_set_map cvNode l x i ht (by omega) (by omega))
  have hg : rd_T88 l (i : Int) = l[i] := getD_eq _ l i (by omega)
  refine Ev.shift ?_
  simp only [zq60.l0]
  rw [hg]
  refine Ev.ite_pos (by omega) (Ev.ite_pos (by omega) (Ev.bind (toNode_ev l[i] (hs _ (List.getElem_mem _))) (Ev.ite_pos (by omega) ?_)))
  rw [w64_nat i (by omega)]
  simpa [cvNode] using hn
theorem toTree_ev (l : List S88) (h : SmallL l) : Ev (fun k => zq14.f k l) (l.map cvNode) := by
 unfold zq14.f zq60.f
 have hl := h.1
 refine Ev.bind (Ev.ite_pos (by omega) (Ev.ite_pos (by simp; omega) ?_)) (Ev.rfl' fun _ => rfl)
 exact toNodeS_l0 l (by omega) h.2 l.length 0 _ (by omega) (by simp) (by simp)
theorem SmallL.cv {l : List S88} (h : SmallL l) : SmallT (l.map cvNode) := by
 refine ⟨by rw [List.length_map]; exact h.1, fun y hy => ?_⟩
 obtain ⟨x, hx, rfl⟩ := List.mem_map.1 hy
 obtain ⟨h1, h2, h3, h4⟩ := h.2 x hx
 exact ⟨h1, h2, by simpa [cvNode] using h3, h4⟩

/-! Equality -/
theorem eqAttrS_l0 (a : List S106) (hl : a.length < 1099511627776) : ∀ (d i : Nat), i + d = a.length → Ev (fun k => zq31.l0 k a a (i : Int)) true := by
 intro d
 induction d with
 | zero => exact fun i hi => Ev.stop fun k => by simp only [zq31.l0]; rw [if_neg (by omega)]
 | succ d ih =>
  intro i hi
  refine Ev.step (f := fun k => zq31.l0 k a a ((i + 1 : Nat) : Int)) (fun k => ?_) (ih (i + 1) (by omega))
  simp only [zq31.l0, laws_eqAttr.f]
  rw [if_pos (by omega), if_pos (by omega), if_pos (by omega), if_pos trivial, if_pos trivial, w64_nat i (by omega)]
  simp
theorem eqAttrS_self (a : List S106) (hl : a.length < 1099511627776) : Ev (fun k => zq31.f k a a) true := by
 unfold zq31.f
 exact Ev.ite_pos rfl (eqAttrS_l0 a hl a.length 0 (by omega))
theorem eqNode_self (x : S64) (h2 : x.f2.length ≤ 1048576) (h5 : x.f5.length ≤ 1048576) : Ev (fun k => laws_eqNode.f k x.f0 x.f1 x.f2 x.f3 x.f4 x.f5 x.f0 x.f1 x.f2 x.f3 x.f4 x.f5) true := by
 unfold laws_eqNode.f
 exact Ev.ite_pos rfl (Ev.ite_pos rfl (Ev.bind (eqAttrS_self _ (by omega)) (Ev.ite_pos rfl (Ev.ite_pos rfl (Ev.ite_pos rfl (Ev.bind (eqIntS_self _ (by omega)) (Ev.ite_pos rfl (Ev.rfl' fun _ => rfl))))))))
theorem eqNodeS_l0 (a : List S64) (hs : SmallT a) : ∀ (d i : Nat), i + d = a.length → Ev (fun k => zq39.l0 k a a (i : Int)) true := by
 have hl := hs.1
 intro d
 induction d with
 | zero => exact fun i hi => Ev.stop fun k => by simp only [zq39.l0]; rw [if_neg (by omega)]
 | succ d ih =>
  intro i hi
  have hb := hs.at_ i (by omega)
  refine Ev.shift ?_
  simp only [zq39.l0]
  refine Ev.ite_pos (by omega) (Ev.ite_pos (by omega) (Ev.ite_pos (by omega) (Ev.bind (eqNode_self _ hb.2.2.1 hb.2.2.2) (Ev.ite_pos rfl ?_))))
  rw [w64_nat i (by omega)]
  exact ih (i + 1) (by omega)
theorem eqTree_self (a : List S64) (hs : SmallT a) : Ev (fun k => zq24.f k a a) true := by
 unfold zq24.f zq39.f
 exact Ev.bind (Ev.ite_pos rfl (eqNodeS_l0 a hs a.length 0 (by omega))) (Ev.ite_pos rfl (Ev.rfl' fun _ => rfl))
end Go.Proofs.Ytpojadoklfdfiaa.P

namespace Go.Proofs.Ytpojadoklfdfiaa.P
open Go.RowKit Go.Proofs.YtpojadoklfdfiaaW.PrintWords Go.Proofs.Ytpojadoklfdfiaa.G
set_option linter.unusedVariables false
set_option linter.unusedSimpArgs false

theorem index_l0 (l : List Int) (hl : l.length ≤ 1048576) (x : Int) : ∀ (d i : Nat), i + d = l.length → Ev (fun k => zq18.l0 k l x (l.length : Int) (i : Int)) (idxFrom (fun y => decide (x = y)) (l.drop i) (i : Int)) := by
 intro d
 induction d with
 | zero =>
  intro i h
  refine Ev.stop fun k => ?_
  simp only [zq18.l0]
  rw [if_neg (by omega), List.drop_eq_nil_of_le (by omega)]; rfl
 | succ d ih =>
  intro i h
  rw [List.drop_eq_getElem_cons (by omega)]
  refine Ev.shift ?_
  simp only [zq18.l0, idxFrom]
  rw [rd_eq l i (by omega)]
  refine Ev.ite_pos (by omega) (Ev.ite_pos (by omega) (Ev.ite_pos (by omega) ?_))
  by_cases e : x = l[i]
  ·rw [if_pos (decide_eq_true e)]; exact Ev.ite_pos e (Ev.rfl' fun _ => rfl)
  ·rw [if_neg (by rw [decide_eq_false e]; simp)]
   refine Ev.ite_neg e ?_
   rw [w64_nat i (by omega)]
   exact ih (i + 1) (by omega)
theorem index_ev (l : List Int) (hl : l.length ≤ 1048576) (x : Int) : Ev (fun k => zq18.f k l x) (idxFrom (fun y => decide (x = y)) l 0) := by
 unfold zq18.f
 exact index_l0 l hl x l.length 0 (by omega)
def rowB (l : List S64) (a : Int) : Bool := nodeIn l a && ((rd_T64 l a).f0 == 3)
def hasI (l : List Int) (a : Int) : Bool := l.any fun y => decide (a = y)
theorem hasI_cons (x : Int) (l : List Int) (a : Int) : hasI (x :: l) a = (decide (a = x) || hasI l a) := rfl
def rowFrom (l : List S64) (ahead : List Int) : List Int → Bool
 | [] => true
 | a :: t => (rowB l a && !hasI ahead a) && rowFrom l (ahead ++ [a]) t
theorem has_eq (l : List S64) (hl : l.length ≤ 1048576) (a : Int) : spec_l6Has.f l a = some (nodeIn l a) := by
 unfold spec_l6Has.f
 rw [l1In_eq, w64 (by omega) (by omega)]; rfl
theorem element_eq (l : List S64) (hl : l.length ≤ 1048576) (a : Int) : spec_l10Element.f l a = some (rowB l a) := by
 unfold spec_l10Element.f rowB
 rw [has_eq l hl]
 simp only [Option.bind_some]
 cases h : nodeIn l a with
 | false => rfl
 | true =>
  simp only [nodeIn, Bool.and_eq_true, decide_eq_true_eq] at h
  rw [if_pos rfl, if_pos h.1, if_pos (by omega)]; rfl
theorem implStack_l0 (l : List S64) (hl : l.length ≤ 1048576) (r : List Int) (hr : r.length ≤ 1048576) : ∀ (t ahead : List Int), r = ahead ++ t → Ev (fun k => zq23.l0 k r r (r.length : Int) (ahead.length : Int) l) (rowFrom l ahead t)
 | [], ahead, h => by
  refine Ev.stop fun k => ?_
  simp only [zq23.l0, rowFrom]
  rw [if_neg (by rw [h]; simp)]
 | a :: t, ahead, h => by
  have hlen : r.length = ahead.length + (t.length + 1) := by rw [h]; simp
  have hg : rd r (ahead.length : Int) = a := by
   unfold rd; rw [Int.toNat_natCast, h]; simp [List.getD_eq_getElem?_getD]
  refine Ev.shift ?_
  simp only [zq23.l0, rowFrom, rowB]
  rw [hg]
  refine Ev.ite_pos (by omega) (Ev.ite_pos (by omega) (Ev.ite_pos (by omega) (Ev.pre (isNode_eq l hl a) ?_)))
  cases hn : nodeIn l a with
  | false => exact Ev.ite_neg (by simp) (Ev.rfl' fun _ => rfl)
  | true =>
   have hn' := hn
   simp only [nodeIn, Bool.and_eq_true, decide_eq_true_eq] at hn'
   refine Ev.ite_pos rfl (Ev.ite_pos hn'.1 (Ev.ite_pos (by omega) ?_))
   by_cases hk : (rd_T64 l a).f0 = 3
   ·refine Ev.ite_pos hk (Ev.bind (index_ev r hr a) ?_)
    have hi := (idx_hit (fun y => decide (a = y)) ahead t a 0 (by simp)).1
    rw [← h, Int.zero_add] at hi
    rw [show ((rd_T64 l a).f0 == 3) = true from beq_iff_eq.2 hk]
    by_cases hc : idxFrom (fun y => decide (a = y)) r 0 = (ahead.length : Int)
    ·refine Ev.ite_pos hc ?_
     rw [show hasI ahead a = false from hi.1 hc, w64_nat _ (by omega)]
     have := implStack_l0 l hl r hr t (ahead ++ [a]) (by rw [h]; simp)
     rw [List.length_append] at this
     simpa using this
    ·rw [show hasI ahead a = true from by
      cases e : hasI ahead a with
      | true => rfl
      | false => exact absurd (hi.2 e) hc]
     exact Ev.ite_neg hc (Ev.rfl' fun _ => by simp)
   ·rw [show ((rd_T64 l a).f0 == 3) = false from beq_eq_false_iff_ne.2 hk]
    exact Ev.ite_neg hk (Ev.rfl' fun _ => rfl)
theorem specRow_l1 (l : List S64) (r : List Int) (hr : r.length ≤ 1048576) (ahead t : List Int) (a : Int) (h : r = ahead ++ a :: t) (b : Bool) (hb : Ev (fun k => zq26.l0 k r ((ahead.length + 1 : Nat) : Int) l) b) : ∀ (d i : Nat), i + d = ahead.length → Ev (fun k => zq26.l1 k r (ahead.length : Int) (i : Int) l) (!hasI (ahead.drop i) a && b) := by
 have hlen : r.length = ahead.length + (t.length + 1) := by rw [h]; simp
 have hg : rd r (ahead.length : Int) = a := by
  unfold rd; rw [Int.toNat_natCast, h]; simp [List.getD_eq_getElem?_getD]
 intro d
 induction d with
 | zero =>
  intro i hi
  rw [List.drop_eq_nil_of_le (by omega)]
  refine Ev.shift ?_
  simp only [zq26.l1]
  refine Ev.ite_neg (by omega) ?_
  rw [w64_nat _ (by omega)]
  simpa [hasI] using hb
 | succ d ih =>
  intro i hi
  have hil : i < ahead.length := by omega
  have hgi : rd r (i : Int) = ahead[i] := by
   unfold rd; rw [Int.toNat_natCast, h, List.getD_eq_getElem?_getD, List.getElem?_append_left hil, List.getElem?_eq_getElem hil]; rfl
  rw [List.drop_eq_getElem_cons hil]
  refine Ev.shift ?_
  simp only [zq26.l1]
  rw [hg, hgi, hasI_cons]
  refine Ev.ite_pos (by omega) (Ev.ite_pos (by omega) (Ev.ite_pos (by omega) (Ev.ite_pos (by omega) (Ev.ite_pos (by omega) ?_))))
  by_cases hc : ahead[i] = a
  ·exact Ev.ite_pos hc (Ev.rfl' fun _ => by rw [decide_eq_true hc.symm]; rfl)
  ·refine Ev.ite_neg hc ?_
   rw [w64_nat i (by omega), decide_eq_false (fun e => hc e.symm), Bool.false_or]
   exact ih (i + 1) (by omega)
theorem specRow_l0 (l : List S64) (hl : l.length ≤ 1048576) (r : List Int) (hr : r.length ≤ 1048576) : ∀ (t ahead : List Int), r = ahead ++ t → Ev (fun k => zq26.l0 k r (ahead.length : Int) l) (rowFrom l ahead t)
 | [], ahead, h => by
  refine Ev.stop fun k => ?_
  simp only [zq26.l0, rowFrom]
  rw [if_neg (by rw [h]; simp)]
 | a :: t, ahead, h => by
  have hlen : r.length = ahead.length + (t.length + 1) := by rw [h]; simp
  have hg : rd r (ahead.length : Int) = a := by
   unfold rd; rw [Int.toNat_natCast, h]; simp [List.getD_eq_getElem?_getD]
  refine Ev.shift ?_
  simp only [zq26.l0, rowFrom]
  rw [hg]
  refine Ev.ite_pos (by omega) (Ev.ite_pos (by omega) (Ev.pre (element_eq l hl a) ?_))
  cases hb : rowB l a with
  | false => exact Ev.ite_neg (by simp) (Ev.rfl' fun _ => rfl)
  | true =>
   refine Ev.ite_pos rfl ?_
   have h1 := specRow_l0 l hl r hr t (ahead ++ [a]) (by rw [h]; simp)
   rw [List.length_append] at h1
   have := specRow_l1 l r hr ahead t a h _ h1 ahead.length 0 (by omega)
   simpa using this
def stackOk (l : List S64) (r : List Int) : Bool := treeI l && (decide (r.length ≤ 40) && rowFrom l [] r)
theorem specStack_ev (l : List S64) (hl : SmallT l) (r : List Int) (hr : r.length ≤ 1048576) : Ev (fun k => zq53.f k l r) (stackOk l r) := by
 unfold zq53.f stackOk
 refine Ev.bind (specTree_ev l hl) ?_
 cases ht : treeI l with
 | false => exact Ev.ite_neg (by simp) (Ev.rfl' fun _ => rfl)
 | true =>
  refine Ev.ite_pos rfl (Ev.bind ?_ (Ev.rfl' fun _ => rfl))
  unfold zq26.f
  by_cases h : 40 < r.length
  ·rw [decide_eq_false (by omega)]
   exact Ev.ite_pos (by omega) (Ev.rfl' fun _ => rfl)
  ·rw [decide_eq_true (by omega), Bool.true_and, Bool.true_and]
   exact Ev.ite_neg (by omega) (specRow_l0 l hl.1 r hr r [] rfl)
theorem implStack_ev (l : List S64) (hl : SmallT l) (r : List Int) (hr : r.length ≤ 1048576) : Ev (fun k => zq23.f k l r) (stackOk l r) := by
 unfold zq23.f stackOk
 have no : Ev (fun k => zq23.j0 k r true l) false := Ev.stop fun k => by simp only [zq23.j0]; rw [if_pos trivial]
 by_cases h : 40 < r.length
 ·rw [decide_eq_false (by omega), Bool.false_and, Bool.and_false]
  exact Ev.ite_pos (by omega) no
 ·rw [decide_eq_true (by omega), Bool.true_and]
  refine Ev.ite_neg (by omega) (Ev.bind (implTree_ev l hl) ?_)
  cases ht : treeI l with
  | false => exact no
  | true =>
   refine Ev.shift ?_
   simp only [zq23.j0]
   rw [Bool.true_and]
   exact Ev.ite_neg (by simp) (implStack_l0 l hl.1 r hr r [] rfl)

/-! How many elements of a name -/
def isEl (a : ByteArray) (x : S64) : Bool := (x.f0 == 3) && (x.f1.toList == a.toList)
theorem specCount_l0 (l : List S64) (hl : SmallT l) (ht : treeI l = true) (a : ByteArray) : ∀ (d i c : Nat), i + d = l.length → c ≤ i → Ev (fun k => zq20.l0 k a (c : Int) (i : Int) l) ((c + ((l.drop i).filter (isEl a)).length : Nat) : Int) := by
 have hl1 := hl.1
 intro d
 induction d with
 | zero =>
  intro i c h hc
  rw [List.drop_eq_nil_of_le (by omega)]
  refine Ev.shift ?_
  simp only [zq20.l0]
  refine Ev.ite_neg (by omega) (Ev.shift ?_)
  simp only [zq20.j1]
  exact Ev.ite_neg (by simp) (Ev.rfl' fun _ => by simp)
 | succ d ih =>
  intro i c h hc
  rw [List.drop_eq_getElem_cons (by omega), List.filter_cons]
  refine Ev.shift ?_
  simp only [zq20.l0]
  refine Ev.ite_pos (by omega) (Ev.bind (specTree_ev l hl) ?_)
  rw [ht]
  refine Ev.shift ?_
  simp only [zq20.j1]
  rw [rdT l i (by omega)]
  have hno := ih (i + 1) c (by omega) (by omega)
  have hyes := ih (i + 1) (c + 1) (by omega) (by omega)
  rw [← w64_nat i (by omega)] at hno hyes
  rw [← w64_nat c (by omega)] at hyes
  refine Ev.ite_pos trivial (Ev.ite_pos (by omega) (Ev.ite_pos (by omega) ?_))
  by_cases h3 : l[i].f0 = 3
  ·refine Ev.ite_pos h3 ?_
   by_cases h4 : l[i].f1.toList = a.toList
   ·rw [if_pos (by simp [isEl, h3, h4])]
    refine Ev.ite_pos h4 ?_
    rw [show c + (l[i] :: (l.drop (i + 1)).filter (isEl a)).length = c + 1 + ((l.drop (i + 1)).filter (isEl a)).length from by simp; omega]
    exact hyes
   ·rw [if_neg (by simp [isEl, h4])]
    exact Ev.ite_neg h4 hno
  ·rw [if_neg (by simp [isEl, h3])]
   exact Ev.ite_neg h3 hno
theorem specCount_ev (l : List S64) (hl : SmallT l) (a : ByteArray) : Ev (fun k => zq20.f k l a) (if treeI l = true then (((l.filter (isEl a)).length : Nat) : Int) else 0) := by
 unfold zq20.f
 cases ht : treeI l with
 | true =>
  rw [if_pos rfl]
  have := specCount_l0 l hl ht a l.length 0 0 (by omega) (by omega)
  simpa using this
 | false =>
  rw [if_neg (by simp)]
  refine Ev.shift ?_
  simp only [zq20.l0]
  have no : Ev (fun k => zq20.j1 k a 0 0 false l) 0 := Ev.stop fun k => by simp only [zq20.j1]; rw [if_neg (by simp)]
  by_cases h : 0 < l.length
  ·refine Ev.ite_pos (by omega) (Ev.bind (specTree_ev l hl) ?_)
   rw [ht]; exact no
  ·exact Ev.ite_neg (by omega) no
/-- The numbers of the elements of a name, from i on. -/
def numsFrom (a : ByteArray) : List S64 → Nat → List Int
 | [], _ => []
 | x :: t, i => if isEl a x = true then (i : Int) :: numsFrom a t (i + 1) else numsFrom a t (i + 1)
theorem numsFrom_len (a : ByteArray) : ∀ (t : List S64) (i : Nat), (numsFrom a t i).length = (t.filter (isEl a)).length
 | [], _ => rfl
 | x :: t, i => by
  simp only [numsFrom, List.filter_cons]
  split <;> simp [numsFrom_len a t (i + 1)]
theorem elements_l0 (l : List S64) (hl : l.length ≤ 1048576) (a : ByteArray) : ∀ (d i : Nat) (acc : List Int), i + d = l.length → acc.length ≤ i → Ev (fun k => zq36.l0 k a acc l (l.length : Int) (i : Int)) (acc ++ numsFrom a (l.drop i) i) := by
 intro d
 induction d with
 | zero =>
  intro i acc h hc
  rw [List.drop_eq_nil_of_le (by omega)]
  refine Ev.stop fun k => ?_
  simp only [zq36.l0, numsFrom]
  rw [if_neg (by omega)]; simp
 | succ d ih =>
  intro i acc h hc
  rw [List.drop_eq_getElem_cons (by omega)]
  refine Ev.shift ?_
  simp only [zq36.l0, numsFrom]
  rw [rdT l i (by omega)]
  have hno := ih (i + 1) acc (by omega) (by omega)
  have hyes := ih (i + 1) (acc ++ [(i : Int)]) (by omega) (by simp; omega)
  rw [← w64_nat i (by omega)] at hno hyes
  refine Ev.ite_pos (by omega) (Ev.ite_pos (by omega) (Ev.ite_pos (by omega) ?_))
  by_cases h3 : l[i].f0 = 3
  ·refine Ev.ite_pos h3 ?_
   by_cases h4 : l[i].f1.toList = a.toList
   ·rw [if_pos (by simp [isEl, h3, h4])]
    refine Ev.ite_pos h4 (Ev.ite_pos (by omega) ?_)
    simpa using hyes
   ·rw [if_neg (by simp [isEl, h4])]
    exact Ev.ite_neg h4 hno
  ·rw [if_neg (by simp [isEl, h3])]
   exact Ev.ite_neg h3 hno
theorem elements_ev (l : List S64) (hl : SmallT l) (a : ByteArray) : Ev (fun k => zq36.f k l a) (if treeI l = true then numsFrom a l 0 else []) := by
 unfold zq36.f
 refine Ev.bind (implTree_ev l hl) ?_
 cases ht : treeI l with
 | false => exact Ev.ite_neg (by simp) (Ev.rfl' fun _ => rfl)
 | true =>
  have := elements_l0 l hl.1 a l.length 0 [] (by omega) (by simp)
  exact Ev.ite_pos rfl (by simpa using this)
theorem implCount_ev (l : List S64) (hl : SmallT l) (a : ByteArray) : Ev (fun k => impl_PageCount.f k l a) (if treeI l = true then (((l.filter (isEl a)).length : Nat) : Int) else 0) := by
 unfold impl_PageCount.f
 refine Ev.bind (elements_ev l hl a) (Ev.rfl' fun _ => ?_)
 split
 ·rw [numsFrom_len]
 ·rfl
end Go.Proofs.Ytpojadoklfdfiaa.P

namespace Go.Proofs.Ytpojadoklfdfiaa.Pure
open Go.RowKit Go.Proofs.YtpojadoklfdfiaaW.PrintWords Go.Proofs.Ytpojadoklfdfiaa.G Go.Proofs.Ytpojadoklfdfiaa.P
theorem FnExactStackOk : laws_FnExactStackOk.Pure := by
 intro l q hl hq
 refine Ev.rounds (r := true) ?_
 unfold laws_FnExactStackOk.f
 by_cases h0 : (q.length : Int) > 1048576
 ·exact Ev.ite_pos h0 (Ev.rfl' fun _ => rfl)
 ·have hq1 : q.length ≤ 1048576 := by omega
  obtain ⟨r, h1, h2⟩ := szTree_ev l hl 1048576 (by omega) (by omega)
  refine Ev.ite_neg h0 (Ev.bind h1 ?_)
  by_cases hr : r < 0
  ·exact Ev.ite_pos hr (Ev.rfl' fun _ => rfl)
  ·have hs := (h2.resolve_left hr).2.2
   exact Ev.ite_neg hr (Ev.bind (toTree_ev l hs) (Ev.bind (toIntS_ev q (by omega)) (Ev.bind (specStack_ev _ hs.cv q hq1) (Ev.bind (toTree_ev l hs) (Ev.bind (toIntS_ev q (by omega)) (Ev.bind (implStack_ev _ hs.cv q hq1) (Ev.ite_neg (by simp) (Ev.bind (toTree_ev l hs) (Ev.bind (eqTree_self _ hs.cv) (Ev.ite_pos rfl (Ev.bind (toIntS_ev q (by omega)) (Ev.bind (eqIntS_self q (by omega)) (Ev.ite_pos rfl (Ev.rfl' fun _ => rfl))))))))))))))
end Go.Proofs.Ytpojadoklfdfiaa.Pure

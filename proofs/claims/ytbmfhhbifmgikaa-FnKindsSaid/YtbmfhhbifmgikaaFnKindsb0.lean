/- The plain side of the law FnKinds: what the twins come to, and that the law's twin answers true at every input of the statement's kind. -/
import Derived.Lib.IndexMore
import Derived.Lib.IndexLaws
import Derived.Test.YtbmfhhbifmgikaaFnKindsa0
import Derived.Test.YtbmfhhbifmgikaaFnKindsa1

namespace Go.Proofs.Ytbmfhhbifmgikaa.P
open Go.RowKit Go.Proofs.YtbmfhhbifmgikaaW.PrintWords
set_option linter.unusedVariables false

theorem w64 {x : Int} (h0 : -9223372036854775808 ≤ x) (h1 : x ≤ 9223372036854775807) : wrap64 x = x := by unfold wrap64; omega
theorem w64_nat (i : Nat) (h : i < 9223372036854775807) : wrap64 ((i : Int) + 1) = ((i + 1 : Nat) : Int) := by rw [w64 (by omega) (by omega)]; omega
theorem take_set_succ {α : Type} (l x : List α) (i : Nat) (h : x.take i = l.take i) (hi : i < x.length) (hl : i < l.length) : (x.set i l[i]).take (i + 1) = l.take (i + 1) := by
  rw [List.take_succ_eq_append_getElem (by simpa using hi), List.take_succ_eq_append_getElem hl]
  rw [List.getElem_set_self, List.take_set_of_le (Nat.le_refl i), h]
theorem take_set_map {α β : Type} (f : α → β) (l : List α) (x : List β) (i : Nat) (h : x.take i = (l.take i).map f) (hi : i < x.length) (hl : i < l.length) : (x.set i (f l[i])).take (i + 1) = (l.take (i + 1)).map f := by
  rw [List.take_succ_eq_append_getElem (by simpa using hi), List.take_succ_eq_append_getElem hl]
  rw [List.getElem_set_self, List.take_set_of_le (Nat.le_refl i), h, List.map_append, List.map_cons, List.map_nil]
theorem rd_eq (l : List Int) (i : Nat) (h : i < l.length) : rd l (i : Int) = l[i] := by
  unfold rd; simp [List.getD_eq_getElem?_getD, List.getElem?_eq_getElem h]
theorem rdOf_eq {α : Type} (z : α) (l : List α) (i : Nat) (h : i < l.length) : rdOf z l (i : Int) = l[i] := by
  unfold rdOf; simp [List.getD_eq_getElem?_getD, List.getElem?_eq_getElem h]
theorem getD_eq {α : Type} (z : α) (l : List α) (i : Nat) (h : i < l.length) : l.getD (i : Int).toNat z = l[i] := by
  simp [List.getD_eq_getElem?_getD, List.getElem?_eq_getElem h]
theorem Ev.rfl' {α : Type} {g : Nat → Option α} {r : α} (h : ∀ k, g k = some r) : Ev g r := ⟨0, fun k _ => h k⟩
theorem Ev.ite_pos {α : Type} {c : Prop} [Decidable c] {g f : Nat → Option α} {r : α} (h : c) (k : Ev g r) : Ev (fun n => if c then g n else f n) r := Ev.congr (fun n => if_pos h) k
theorem Ev.ite_neg {α : Type} {c : Prop} [Decidable c] {g f : Nat → Option α} {r : α} (h : ¬ c) (k : Ev f r) : Ev (fun n => if c then g n else f n) r := Ev.congr (fun n => if_neg h) k
/-- One step of a loop that ends there. -/
theorem Ev.stop {α : Type} {g : Nat → Option α} {r : α} (h : ∀ k, g (k + 1) = some r) : Ev g r := ⟨1, fun k hk => by obtain ⟨m, rfl⟩ : ∃ m, k = m + 1 := ⟨k - 1, by omega⟩; exact h m⟩
/-- A function without rounds ahead. -/
theorem Ev.pre {α β : Type} {a : Option α} {x : α} {f : Nat → α → Option β} {r : β} (h : a = some x) (k : Ev (fun n => f n x) r) : Ev (fun n => a.bind (f n)) r := by
  subst h; exact k
/-- A round ahead. -/
theorem Ev.shift {α : Type} {g : Nat → Option α} {r : α} (h : Ev (fun k => g (k + 1)) r) : Ev g r := Ev.step (fun _ => rfl) h
theorem toList_data (s : ByteArray) : s.toList = s.data.toList := ByteArray.toList_eq s
theorem bytes_eq {a b : ByteArray} (h : a.toList = b.toList) : a = b := by
  rw [toList_data, toList_data] at h
  cases a; cases b; simp only [Array.toList_inj] at h; rw [h]
end Go.Proofs.Ytbmfhhbifmgikaa.P

namespace Go.Proofs.Ytbmfhhbifmgikaa.P
open Go.RowKit Go.Proofs.YtbmfhhbifmgikaaW.PrintWords Go.Proofs.Ytbmfhhbifmgikaa.G
set_option linter.unusedVariables false

theorem has_cons (b : UInt8) (l sub : List UInt8) : Lib.contains (b :: l) sub = (sub.isPrefixOf (b :: l) || Lib.contains l sub) := by
  unfold Lib.contains
  have hg := Lib.index_ge l sub
  rw [Lib.index]
  by_cases h : sub.isPrefixOf (b :: l) = true
  · simp [h]
  · rw [Bool.not_eq_true] at h
    simp only [h, Bool.false_or]
    by_cases h1 : Lib.index l sub = -1
    · simp [h1]
    · have h3 : (Lib.index l sub == -1) = false := by rw [beq_eq_false_iff_ne]; exact h1
      simp only [h3]
      have : decide (0 ≤ Lib.index l sub + 1) = decide (0 ≤ Lib.index l sub) := by rw [decide_eq_decide]; omega
      simpa using this
theorem has_nil (a : UInt8) (t : List UInt8) : Lib.contains [] (a :: t) = false := rfl
theorem has_one (c : UInt8) : ∀ l : List UInt8, Lib.contains l [c] = decide (c ∈ l)
  | [] => rfl
  | b :: l => by
    rw [has_cons, has_one c l]
    simp [List.isPrefixOf, Bool.decide_or, Bool.beq_eq_decide_eq]
/-- A row of names: a blank ahead of each, and one behind all. -/
def J : List (List UInt8) → List UInt8
  | [] => [32]
  | w :: ws => 32 :: (w ++ J ws)
theorem J_head : ∀ ws, ∃ l, J ws = 32 :: l
  | [] => ⟨[], rfl⟩
  | _ :: _ => ⟨_, rfl⟩
theorem skip (t l : List UInt8) : ∀ w : List UInt8, (32 : UInt8) ∉ w → Lib.contains (w ++ l) (32 :: t) = Lib.contains l (32 :: t)
  | [], _ => rfl
  | c :: w, h => by
    rw [List.cons_append, has_cons, skip t l w (fun hm => h (List.mem_cons_of_mem _ hm))]
    have hc : ((32 : UInt8) == c) = false := by
      rw [beq_eq_false_iff_ne]; intro e; exact h (by rw [e]; exact List.mem_cons_self)
    simp [List.isPrefixOf, hc]
theorem pre (l : List UInt8) : ∀ s w : List UInt8, (32 : UInt8) ∉ s → (32 : UInt8) ∉ w → (s ++ [32]).isPrefixOf (w ++ 32 :: l) = decide (s = w)
  | [], [], _, _ => by simp [List.isPrefixOf]
  | [], c :: w, _, h => by
    have hc : ((32 : UInt8) == c) = false := by
      rw [beq_eq_false_iff_ne]; intro e; exact h (by rw [e]; exact List.mem_cons_self)
    simp [List.isPrefixOf, hc]
  | a :: s, [], h, _ => by
    have hc : (a == (32 : UInt8)) = false := by
      rw [beq_eq_false_iff_ne]; intro e; exact h (by rw [← e]; exact List.mem_cons_self)
    simp [List.isPrefixOf, hc]
  | a :: s, c :: w, h1, h2 => by
    have ih := pre l s w (fun hm => h1 (List.mem_cons_of_mem _ hm)) (fun hm => h2 (List.mem_cons_of_mem _ hm))
    simp only [List.cons_append, List.isPrefixOf, ih]
    simp [Bool.beq_eq_decide_eq, Bool.decide_and]
theorem J_has (s : List UInt8) (hs : (32 : UInt8) ∉ s) : ∀ ws : List (List UInt8), (∀ w ∈ ws, (32 : UInt8) ∉ w) → Lib.contains (J ws) (32 :: (s ++ [32])) = decide (s ∈ ws)
  | [], _ => by
    rw [J, has_cons]
    cases s with
    | nil => simp [List.isPrefixOf, Lib.contains, Lib.index]
    | cons a s => simp [List.isPrefixOf, Lib.contains, Lib.index]
  | w :: ws, h => by
    have ih := J_has s hs ws (fun w' hw => h w' (List.mem_cons_of_mem _ hw))
    have hw := h w List.mem_cons_self
    rw [J, has_cons, skip _ _ w hw, ih]
    obtain ⟨l, hl⟩ := J_head ws
    have hp := pre l s w hs hw
    rw [← hl] at hp
    simp only [List.isPrefixOf, hp]
    simp [Bool.decide_or]

theorem isOneOf_eq (a n : ByteArray) (ws : List (List UInt8)) (hJ : 32 :: (n.data.toList ++ [32]) = J ws) (hw : ∀ w ∈ ws, (32 : UInt8) ∉ w) (he : [] ∉ ws) (ha : a.size ≤ 1048576) (hn : n.size ≤ 1048576) :
    impl_isOneOf.f a n = some (decide (a.data.toList ∈ ws)) := by
  unfold impl_isOneOf.f strings_Contains.f
  by_cases h0 : a.toList = []
  · rw [if_pos h0]
    rw [toList_data] at h0
    simp [h0, he]
  · rw [if_neg h0, if_pos (by omega)]
    simp only [Option.bind_some]
    simp only [has_one]
    by_cases hb : (32 : UInt8) ∈ a.data.toList
    · have hna : ¬ a.data.toList ∈ ws := fun hm => hw _ hm hb
      simp [hb, hna]
    · simp only [hb, decide_false]
      rw [if_neg (by simp), if_pos (by omega), if_pos (by omega), if_pos (by omega), if_pos (by omega)]
      rw [if_pos (by simp [ByteArray.size_append]; have : (⟨#[32]⟩ : ByteArray).size = 1 := rfl; omega)]
      simp only [Option.bind_some, ByteArray.data_append, Array.toList_append]
      have := J_has a.data.toList hb ws hw
      rw [← hJ] at this
      simpa using this

theorem find_l0 (l : List ByteArray) (s : ByteArray) (hl : l.length < 1099511627776) : ∀ (d i : Nat), i + d = l.length → s.data.toList ∉ (l.take i).map (·.data.toList) →
    ∃ r : Int, Ev (fun k => spec_l7Find.l0 k l s (i : Int)) r ∧ (0 ≤ r ↔ s.data.toList ∈ l.map (·.data.toList)) := by
  intro d
  induction d with
  | zero =>
    intro i hi hm
    refine ⟨-1, Ev.stop fun k => ?_, ?_⟩
    · simp only [spec_l7Find.l0]; rw [if_neg (by omega)]
    · rw [List.take_of_length_le (by omega)] at hm
      simp [hm]
  | succ d ih =>
    intro i hi hm
    by_cases h : l[i].toList = s.toList
    · refine ⟨i, Ev.stop fun k => ?_, ?_⟩
      · simp only [spec_l7Find.l0]
        rw [if_pos (by omega), if_pos (by omega), rdOf_eq _ l i (by omega), if_pos h]
      · rw [toList_data, toList_data] at h
        constructor
        · intro _; rw [← h]; exact List.mem_map_of_mem (List.getElem_mem _)
        · intro _; omega
    · obtain ⟨r, h1, h2⟩ := ih (i + 1) (by omega) (by
        rw [List.take_succ_eq_append_getElem (by omega), List.map_append, List.mem_append]
        rintro (h3 | h3)
        · exact hm h3
        · simp at h3; exact h (by rw [toList_data, toList_data, h3]))
      refine ⟨r, Ev.step (f := fun k => spec_l7Find.l0 k l s ((i + 1 : Nat) : Int)) (fun k => ?_) h1, h2⟩
      simp only [spec_l7Find.l0]
      rw [if_pos (by omega), if_pos (by omega), rdOf_eq _ l i (by omega), if_neg h, w64_nat i (by omega)]
theorem l8In_ev (l : List ByteArray) (s : ByteArray) (hl : l.length < 1099511627776) : Ev (fun k => spec_l8In.f k l s) (decide (s.data.toList ∈ l.map (·.data.toList))) := by
  unfold spec_l8In.f
  obtain ⟨r, h1, h2⟩ := find_l0 l s hl l.length 0 (by omega) (by simp)
  refine Ev.bind (show Ev (fun k => spec_l7Find.f k l s) r from h1) (Ev.rfl' fun _ => ?_)
  rw [← decide_eq_decide.2 h2]

def wsIsFormat : List (List UInt8) := [[97], [98], [98, 105, 103], [99, 111, 100, 101], [101, 109], [102, 111, 110, 116], [105], [110, 111, 98, 114], [115], [115, 109, 97, 108, 108], [115, 116, 114, 105, 107, 101], [115, 116, 114, 111, 110, 103], [116, 116], [117]]
def wsIsBlock : List (List UInt8) := [[97, 100, 100, 114, 101, 115, 115], [97, 114, 116, 105, 99, 108, 101], [97, 115, 105, 100, 101], [98, 108, 111, 99, 107, 113, 117, 111, 116, 101], [99, 101, 110, 116, 101, 114], [100, 101, 116, 97, 105, 108, 115], [100, 105, 97, 108, 111, 103], [100, 105, 114], [100, 105, 118], [100, 108], [102, 105, 101, 108, 100, 115, 101, 116], [102, 105, 103, 99, 97, 112, 116, 105, 111, 110], [102, 105, 103, 117, 114, 101], [102, 111, 111, 116, 101, 114], [104, 101, 97, 100, 101, 114], [104, 103, 114, 111, 117, 112], [109, 97, 105, 110], [109, 101, 110, 117], [110, 97, 118], [111, 108], [112], [115, 101, 97, 114, 99, 104], [115, 101, 99, 116, 105, 111, 110], [115, 117, 109, 109, 97, 114, 121], [117, 108]]
def wsIsHeading : List (List UInt8) := [[104, 49], [104, 50], [104, 51], [104, 52], [104, 53], [104, 54]]
def wsIsHead : List (List UInt8) := [[98, 97, 115, 101], [108, 105, 110, 107], [109, 101, 116, 97], [110, 111, 102, 114, 97, 109, 101, 115], [115, 99, 114, 105, 112, 116], [115, 116, 121, 108, 101], [116, 105, 116, 108, 101]]
def wsIsImplied : List (List UInt8) := [[100, 100], [100, 116], [108, 105], [111, 112, 116, 103, 114, 111, 117, 112], [111, 112, 116, 105, 111, 110], [112]]
def wsIsBound : List (List UInt8) := [[97, 112, 112, 108, 101, 116], [104, 116, 109, 108], [109, 97, 114, 113, 117, 101, 101], [111, 98, 106, 101, 99, 116], [116, 97, 98, 108, 101], [116, 100], [116, 104]]
def wsIsVoid : List (List UInt8) := [[97, 114, 101, 97], [98, 97, 115, 101], [98, 114], [101, 109, 98, 101, 100], [104, 114], [105, 109, 103], [105, 110, 112, 117, 116], [108, 105, 110, 107], [109, 101, 116, 97], [112, 97, 114, 97, 109], [115, 111, 117, 114, 99, 101], [116, 114, 97, 99, 107], [119, 98, 114]]
def wsIsRaw : List (List UInt8) := [[105, 102, 114, 97, 109, 101], [110, 111, 101, 109, 98, 101, 100], [110, 111, 102, 114, 97, 109, 101, 115], [112, 108, 97, 105, 110, 116, 101, 120, 116], [115, 99, 114, 105, 112, 116], [115, 116, 121, 108, 101], [120, 109, 112]]
def wsDialogSearch : List (List UInt8) := [[100, 105, 97, 108, 111, 103], [115, 101, 97, 114, 99, 104]]
def wsSpecialRest : List (List UInt8) := [[97, 112, 112, 108, 101, 116], [97, 114, 101, 97], [98, 111, 100, 121], [98, 114], [98, 117, 116, 116, 111, 110], [100, 100], [100, 116], [101, 109, 98, 101, 100], [104, 101, 97, 100], [104, 114], [104, 116, 109, 108], [105, 102, 114, 97, 109, 101], [105, 109, 103], [105, 110, 112, 117, 116], [108, 105], [108, 105, 115, 116, 105, 110, 103], [109, 97, 114, 113, 117, 101, 101], [110, 111, 101, 109, 98, 101, 100], [111, 98, 106, 101, 99, 116], [112, 97, 114, 97, 109], [112, 108, 97, 105, 110, 116, 101, 120, 116], [112, 114, 101], [115, 111, 117, 114, 99, 101], [116, 97, 98, 108, 101], [116, 100], [116, 101, 120, 116, 97, 114, 101, 97], [116, 104], [116, 114], [116, 114, 97, 99, 107], [119, 98, 114], [120, 109, 112]]
theorem bad_ok (ws : List (List UInt8)) (h : ws.all (fun w => w.all (fun b => b != 32)) = true) : ∀ w ∈ ws, (32 : UInt8) ∉ w := by
  intro w hw hb
  have h1 := List.all_eq_true.1 h w hw
  have h2 := List.all_eq_true.1 h1 32 hb
  simp at h2
theorem impl_IsFormat_eq (a : ByteArray) (ha : a.size ≤ 1048576) : impl_IsFormat.f a = some (decide (a.data.toList ∈ wsIsFormat)) := by
  unfold impl_IsFormat.f
  rw [isOneOf_eq a _ wsIsFormat (by decide +kernel) (bad_ok _ (by decide +kernel)) (by decide +kernel) ha (by decide +kernel)]; rfl
theorem spec_IsFormat_ev (a : ByteArray) : Ev (fun k => spec_IsFormat.f k a) (decide (a.data.toList ∈ wsIsFormat)) := by
  unfold spec_IsFormat.f
  refine Ev.bind (l8In_ev _ a (by decide +kernel)) (Ev.rfl' fun _ => rfl)
theorem impl_IsBlock_eq (a : ByteArray) (ha : a.size ≤ 1048576) : impl_IsBlock.f a = some (decide (a.data.toList ∈ wsIsBlock)) := by
  unfold impl_IsBlock.f
  rw [isOneOf_eq a _ wsIsBlock (by decide +kernel) (bad_ok _ (by decide +kernel)) (by decide +kernel) ha (by decide +kernel)]; rfl
theorem spec_IsBlock_ev (a : ByteArray) : Ev (fun k => spec_IsBlock.f k a) (decide (a.data.toList ∈ wsIsBlock)) := by
  unfold spec_IsBlock.f
  refine Ev.bind (l8In_ev _ a (by decide +kernel)) (Ev.rfl' fun _ => rfl)
theorem impl_IsHeading_eq (a : ByteArray) (ha : a.size ≤ 1048576) : impl_IsHeading.f a = some (decide (a.data.toList ∈ wsIsHeading)) := by
  unfold impl_IsHeading.f
  rw [isOneOf_eq a _ wsIsHeading (by decide +kernel) (bad_ok _ (by decide +kernel)) (by decide +kernel) ha (by decide +kernel)]; rfl
theorem spec_IsHeading_ev (a : ByteArray) : Ev (fun k => spec_IsHeading.f k a) (decide (a.data.toList ∈ wsIsHeading)) := by
  unfold spec_IsHeading.f
  refine Ev.bind (l8In_ev _ a (by decide +kernel)) (Ev.rfl' fun _ => rfl)
theorem impl_IsHead_eq (a : ByteArray) (ha : a.size ≤ 1048576) : impl_IsHead.f a = some (decide (a.data.toList ∈ wsIsHead)) := by
  unfold impl_IsHead.f
  rw [isOneOf_eq a _ wsIsHead (by decide +kernel) (bad_ok _ (by decide +kernel)) (by decide +kernel) ha (by decide +kernel)]; rfl
theorem spec_IsHead_ev (a : ByteArray) : Ev (fun k => spec_IsHead.f k a) (decide (a.data.toList ∈ wsIsHead)) := by
  unfold spec_IsHead.f
  refine Ev.bind (l8In_ev _ a (by decide +kernel)) (Ev.rfl' fun _ => rfl)
theorem impl_IsImplied_eq (a : ByteArray) (ha : a.size ≤ 1048576) : impl_IsImplied.f a = some (decide (a.data.toList ∈ wsIsImplied)) := by
  unfold impl_IsImplied.f
  rw [isOneOf_eq a _ wsIsImplied (by decide +kernel) (bad_ok _ (by decide +kernel)) (by decide +kernel) ha (by decide +kernel)]; rfl
theorem spec_IsImplied_ev (a : ByteArray) : Ev (fun k => spec_IsImplied.f k a) (decide (a.data.toList ∈ wsIsImplied)) := by
  unfold spec_IsImplied.f
  refine Ev.bind (l8In_ev _ a (by decide +kernel)) (Ev.rfl' fun _ => rfl)
theorem impl_IsBound_eq (a : ByteArray) (ha : a.size ≤ 1048576) : impl_IsBound.f a = some (decide (a.data.toList ∈ wsIsBound)) := by
  unfold impl_IsBound.f
  rw [isOneOf_eq a _ wsIsBound (by decide +kernel) (bad_ok _ (by decide +kernel)) (by decide +kernel) ha (by decide +kernel)]; rfl
theorem spec_IsBound_ev (a : ByteArray) : Ev (fun k => spec_IsBound.f k a) (decide (a.data.toList ∈ wsIsBound)) := by
  unfold spec_IsBound.f
  refine Ev.bind (l8In_ev _ a (by decide +kernel)) (Ev.rfl' fun _ => rfl)
end Go.Proofs.Ytbmfhhbifmgikaa.P

namespace Go.Proofs.Ytbmfhhbifmgikaa.P
open Go.RowKit Go.Proofs.YtbmfhhbifmgikaaW.PrintWords Go.Proofs.Ytbmfhhbifmgikaa.G
set_option linter.unusedVariables false
/-- Special, by its lists. -/
def special (s : List UInt8) : Bool := !decide (s ∈ wsDialogSearch) && (decide (s ∈ wsIsBlock) || (decide (s ∈ wsIsHeading) || (decide (s ∈ wsIsHead) || decide (s ∈ wsSpecialRest))))
theorem impl_IsSpecial_eq (a : ByteArray) (ha : a.size ≤ 1048576) : impl_IsSpecial.f a = some (special a.data.toList) := by
  unfold impl_IsSpecial.f
  rw [isOneOf_eq a _ wsDialogSearch (by decide +kernel) (bad_ok _ (by decide +kernel)) (by decide +kernel) ha (by decide +kernel), impl_IsBlock_eq a ha, impl_IsHeading_eq a ha, impl_IsHead_eq a ha, isOneOf_eq a _ wsSpecialRest (by decide +kernel) (bad_ok _ (by decide +kernel)) (by decide +kernel) ha (by decide +kernel)]
  simp only [Option.bind_some]
  unfold special
  by_cases h1 : a.data.toList ∈ wsDialogSearch
  · simp [h1]
  · by_cases h2 : a.data.toList ∈ wsIsBlock
    · simp [h1, h2]
    · by_cases h3 : a.data.toList ∈ wsIsHeading
      · simp [h1, h2, h3]
      · by_cases h4 : a.data.toList ∈ wsIsHead <;> simp [h1, h2, h3, h4]
theorem spec_IsSpecial_j0 (a : ByteArray) (b : Bool) (hb : b = decide (a.data.toList ∈ wsDialogSearch)) : Ev (fun k => spec_IsSpecial.j0 k a b) (special a.data.toList) := by
  refine Ev.shift ?_
  simp only [spec_IsSpecial.j0]
  unfold special
  subst hb
  by_cases h1 : a.data.toList ∈ wsDialogSearch
  · refine Ev.ite_pos (by simp [h1]) (Ev.rfl' fun _ => by simp [h1])
  · refine Ev.ite_neg (by simp [h1]) (Ev.bind (spec_IsBlock_ev a) ?_)
    by_cases h2 : a.data.toList ∈ wsIsBlock
    · exact Ev.ite_pos (by simp [h2]) (Ev.rfl' fun _ => by simp [h1, h2])
    · refine Ev.ite_neg (by simp [h2]) (Ev.bind (spec_IsHeading_ev a) ?_)
      by_cases h3 : a.data.toList ∈ wsIsHeading
      · exact Ev.ite_pos (by simp [h3]) (Ev.rfl' fun _ => by simp [h1, h2, h3])
      · refine Ev.ite_neg (by simp [h3]) (Ev.bind (spec_IsHead_ev a) ?_)
        by_cases h4 : a.data.toList ∈ wsIsHead
        · exact Ev.ite_pos (by simp [h4]) (Ev.rfl' fun _ => by simp [h1, h2, h3, h4])
        · refine Ev.ite_neg (by simp [h4]) (Ev.bind (l8In_ev _ a (by decide +kernel)) (Ev.rfl' fun _ => ?_))
          simp only [h1, h2, h3, h4]
          rfl
theorem spec_IsSpecial_ev (a : ByteArray) : Ev (fun k => spec_IsSpecial.f k a) (special a.data.toList) := by
  unfold spec_IsSpecial.f
  rw [toList_data]
  by_cases h : a.data.toList = [100, 105, 97, 108, 111, 103]
  · exact Ev.ite_pos h (spec_IsSpecial_j0 a _ (by rw [h]; rfl))
  · refine Ev.ite_neg h (spec_IsSpecial_j0 a _ ?_)
    simp [wsDialogSearch, h, Bool.beq_eq_decide_eq]
end Go.Proofs.Ytbmfhhbifmgikaa.P

namespace Go.Proofs.Ytbmfhhbifmgikaa.P
open Go.RowKit Go.Proofs.YtbmfhhbifmgikaaW.PrintWords Go.Proofs.Ytbmfhhbifmgikaa.G
set_option linter.unusedVariables false

theorem and_mask (x : Int) (m : Nat) (hm : m < 4611686018427387904) : 0 ≤ Go.bits .and .i64 x m ∧ Go.bits .and .i64 x m ≤ m := by
  have h : (BitVec.ofInt 64 x &&& BitVec.ofInt 64 (m : Int)).toNat ≤ m := by
    rw [BitVec.toNat_and, BitVec.ofInt_natCast, BitVec.toNat_ofNat]
    exact Nat.le_trans Nat.and_le_right (Nat.mod_le _ _)
  have e : Go.bits .and .i64 x m = IntKind.i64.wrap ((BitVec.ofInt 64 x &&& BitVec.ofInt 64 (m : Int)).toNat : Int) := rfl
  rw [e, IntKind.wrap_i64]
  omega
theorem and_255 (x : Int) : 0 ≤ Go.bits .and .i64 x 255 ∧ Go.bits .and .i64 x 255 ≤ 255 := and_mask x 255 (by omega)

theorem draw_new (l : List Int) (hl : l.length ≤ 1048576) : ∃ h, Ev (fun k => spec_l1New.f k l) (l, 0, h) := by
  have go : ∀ (d i : Nat) (h : Int), i + d = l.length → ∃ h', Ev (fun k => spec_l1New.l0 k l h (i : Int)) (l, 0, h') := by
    intro d
    induction d with
    | zero =>
      intro i h hi
      exact ⟨h, Ev.stop fun k => by simp only [spec_l1New.l0]; rw [if_neg (by omega)]⟩
    | succ d ih =>
      intro i h hi
      by_cases h4 : (i : Int) < 4000
      · obtain ⟨h', e⟩ := ih (i + 1) (Go.bits .and .i64 (wrap64 ((wrap64 ((wrap64 (h * 131)) + (wrap64 (rd l (i : Int))))) + 7)) 1073741823) (by omega)
        refine ⟨h', Ev.step (f := fun k => spec_l1New.l0 k l (Go.bits .and .i64 (wrap64 ((wrap64 ((wrap64 (h * 131)) + (wrap64 (rd l (i : Int))))) + 7)) 1073741823) ((i + 1 : Nat) : Int)) (fun k => ?_) e⟩
        simp only [spec_l1New.l0]
        rw [if_pos (by omega), if_pos h4, if_pos (by omega), w64_nat i (by omega)]
      · exact ⟨h, Ev.stop fun k => by simp only [spec_l1New.l0]; rw [if_pos (by omega), if_neg h4]⟩
  exact go l.length 0 _ (by omega)
/-- A place of a cursor. -/
def At (l : List Int) (i : Int) : Prop := 0 ≤ i ∧ i ≤ l.length
theorem draw_byte (l : List Int) (i h : Int) (hl : l.length ≤ 1048576) (hi : At l i) : ∃ x i' h', spec_l1Byte.f l i h = some (x, i', h') ∧ 0 ≤ x ∧ x ≤ 255 ∧ At l i' := by
  unfold spec_l1Byte.f
  obtain ⟨h0, h1⟩ := hi
  by_cases hlt : i < (l.length : Int)
  · rw [if_pos hlt, if_pos h0]
    exact ⟨_, _, _, rfl, (and_255 _).1, (and_255 _).2, by rw [w64 (by omega) (by omega)]; exact ⟨by omega, by omega⟩⟩
  · rw [if_neg hlt]
    exact ⟨_, _, _, rfl, (and_255 _).1, (and_255 _).2, h0, h1⟩
theorem draw_below (l : List Int) (i h n : Int) (hl : l.length ≤ 1048576) (hi : At l i) : ∃ x i' h', spec_l1Below.f l i h n = some (x, i', h') ∧ 0 ≤ x ∧ (0 < n → x < n) ∧ (x ≤ 0 ∨ x < n) ∧ At l i' := by
  unfold spec_l1Below.f
  by_cases hn : n ≤ 0
  · rw [if_pos hn]; exact ⟨_, _, _, rfl, by omega, by omega, by omega, hi⟩
  · rw [if_neg hn]
    obtain ⟨x, i1, h1, e1, x0, x1, a1⟩ := draw_byte l i h hl hi
    by_cases hs : n ≤ 256
    · rw [if_pos hs, e1]
      simp only [Option.bind_some]
      rw [if_neg (by omega)]
      have t0 := Int.tmod_nonneg (a := x) n x0
      have t1 := Int.tmod_lt_of_pos x (b := n) (by omega)
      exact ⟨_, _, _, rfl, t0, fun _ => t1, .inr t1, a1⟩
    · rw [if_neg hs, e1]
      simp only [Option.bind_some]
      obtain ⟨y, i2, h2, e2, y0, y1, a2⟩ := draw_byte l i1 h1 hl a1
      rw [e2]; simp only [Option.bind_some]
      obtain ⟨z, i3, h3, e3, z0, z1, a3⟩ := draw_byte l i2 h2 hl a2
      rw [e3]; simp only [Option.bind_some]
      obtain ⟨u, i4, h4, e4, u0, u1, a4⟩ := draw_byte l i3 h3 hl a3
      rw [e4]; simp only [Option.bind_some]
      rw [if_neg (by omega), w64 (x := x * 16777216) (by omega) (by omega), w64 (x := y * 65536) (by omega) (by omega), w64 (x := z * 256) (by omega) (by omega), w64 (x := x * 16777216 + y * 65536) (by omega) (by omega), w64 (x := x * 16777216 + y * 65536 + z * 256) (by omega) (by omega), w64 (by omega) (by omega)]
      have t0 := Int.tmod_nonneg (a := x * 16777216 + y * 65536 + z * 256 + u) n (by omega)
      have t1 := Int.tmod_lt_of_pos (x * 16777216 + y * 65536 + z * 256 + u) (b := n) (by omega)
      exact ⟨_, _, _, rfl, t0, fun _ => t1, .inr t1, a4⟩
theorem draw_pick (l : List Int) (i h : Int) (xs : List ByteArray) (hl : l.length ≤ 1048576) (hi : At l i) (hx : 0 < xs.length) : ∃ x i' h', spec_l1Pick.f l i h xs = some (x, i', h') ∧ x ∈ xs ∧ At l i' := by
  unfold spec_l1Pick.f
  obtain ⟨x, i1, h1, e1, x0, x1, _, a1⟩ := draw_below l i h xs.length hl hi
  rw [e1]; simp only [Option.bind_some]
  have x2 := x1 (by omega)
  obtain ⟨j, rfl⟩ := Int.eq_ofNat_of_zero_le x0
  rw [if_pos x0, if_pos x2, rdOf_eq _ xs j (by omega)]
  exact ⟨_, _, _, rfl, List.getElem_mem _, a1⟩

end Go.Proofs.Ytbmfhhbifmgikaa.P

namespace Go.Proofs.Ytbmfhhbifmgikaa.Pure
open Go.RowKit Go.Proofs.YtbmfhhbifmgikaaW.PrintWords Go.Proofs.Ytbmfhhbifmgikaa.G Go.Proofs.Ytbmfhhbifmgikaa.P
set_option linter.unusedVariables false
/-- What the law asks of the answers. -/
def fit (s : List UInt8) : Bool :=
  (!(decide (s ∈ wsIsFormat) && (decide (s ∈ wsIsBlock) || (decide (s ∈ wsIsHeading) || special s)))) && ((!decide (s ∈ wsIsHeading) || special s) && ((!decide (s ∈ wsIsImplied) || !decide (s ∈ wsIsHeading)) && (!decide (s ∈ wsIsBound) || special s)))
theorem picked (l : List Int) (hl : l.length ≤ 1048576) (xs : List ByteArray) (P : ByteArray → Prop) (hx : 0 < xs.length) (hP : ∀ x ∈ xs, P x) :
    ∃ s, Ev (fun k => (spec_l1New.f k l).bind fun b => (spec_l1Pick.f b.1 b.2.1 b.2.2 xs).bind fun c => some c.1) s ∧ P s := by
  obtain ⟨h, e⟩ := draw_new l hl
  obtain ⟨x, i', h', e2, hm, _⟩ := draw_pick l 0 h xs hl ⟨by omega, by omega⟩ hx
  exact ⟨x, Ev.bind e (Ev.pre e2 (Ev.rfl' fun _ => rfl)), hP x hm⟩
theorem DrawIsSpecial_ev (l : List Int) (hl : l.length ≤ 1048576) : ∃ s : ByteArray, Ev (fun k => spec_DrawIsSpecial.f k l) s ∧ (s.size ≤ 1048576 ∧ fit s.data.toList = true) := by
  obtain ⟨s, e, hp⟩ : ∃ s, Ev (fun k => spec_l9DrawName.f k l) s ∧ (s.size ≤ 1048576 ∧ fit s.data.toList = true) := by
    unfold spec_l9DrawName.f
    exact picked l hl _ (fun s => s.size ≤ 1048576 ∧ fit s.data.toList = true) (by decide +kernel) (by decide +kernel)
  exact ⟨s, Ev.bind e (Ev.rfl' fun _ => rfl), hp⟩
theorem FnKinds : laws_FnKinds.Pure := by
  intro l _ _ _
  refine Ev.rounds (r := true) ?_
  unfold laws_FnKinds.f laws_big.f
  refine Ev.pre rfl ?_
  by_cases hbig : (l.length : Int) > 1048576
  · exact Ev.ite_pos (by simpa using hbig) (Ev.rfl' fun _ => rfl)
  · refine Ev.ite_neg (by simpa using hbig) ?_
    obtain ⟨s, e, hs, hf⟩ := DrawIsSpecial_ev l (by omega)
    refine Ev.bind e (Ev.pre (impl_IsFormat_eq s hs) (Ev.pre (impl_IsBlock_eq s hs) (Ev.pre (impl_IsHeading_eq s hs) (Ev.pre (impl_IsHead_eq s hs) ?_))))
    refine Ev.bind (spec_IsFormat_ev s) (Ev.ite_neg (by simp) (Ev.bind (spec_IsBlock_ev s) (Ev.ite_neg (by simp) (Ev.bind (spec_IsHeading_ev s) (Ev.ite_neg (by simp) (Ev.bind (spec_IsHead_ev s) (Ev.ite_neg (by simp) ?_)))))))
    refine Ev.pre (impl_IsBound_eq s hs) (Ev.bind (spec_IsBound_ev s) (Ev.ite_neg (by simp) (Ev.pre (impl_IsImplied_eq s hs) (Ev.bind (spec_IsImplied_ev s) ?_))))
    refine Ev.shift ?_
    simp only [laws_FnKinds.j0]
    refine Ev.ite_neg (by simp) (Ev.pre (impl_IsSpecial_eq s hs) (Ev.bind (spec_IsSpecial_ev s) (Ev.ite_pos (by simp) ?_)))
    refine Ev.rfl' fun _ => ?_
    simp only [impl_IsImplied_eq s hs, impl_IsBound_eq s hs, Option.bind_some]
    unfold fit at hf
    revert hf
    by_cases h1 : s.data.toList ∈ wsIsFormat <;> by_cases h2 : s.data.toList ∈ wsIsBlock <;> by_cases h3 : s.data.toList ∈ wsIsHeading <;> by_cases h5 : s.data.toList ∈ wsIsImplied <;> by_cases h6 : s.data.toList ∈ wsIsBound <;> cases hsp : special s.data.toList <;> simp [h1, h2, h3, h5, h6]
end Go.Proofs.Ytbmfhhbifmgikaa.Pure

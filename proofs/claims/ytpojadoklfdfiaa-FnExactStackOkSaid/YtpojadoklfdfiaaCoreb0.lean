/- What several laws' twins come to, in plain words; of no program. -/
import Derived.ProofKit
import Derived.SizedLaws
import Derived.WideShapes
import Derived.Test.YtpojadoklfdfiaaCorea0
import Derived.Test.YtpojadoklfdfiaaCorea1
import Derived.Test.YtpojadoklfdfiaaCorea2
import Derived.Test.YtpojadoklfdfiaaCorea3
import Derived.Test.YtpojadoklfdfiaaCorea4

namespace Go.Proofs.Ytpojadoklfdfiaa.B
open Go.RowKit Go.ChangeShapes Go.WideShapes Go.Proofs.YtpojadoklfdfiaaW.PrintWords

/-- What reads as_ data of type t is of kind d, and keeps S. -/
def Opens {α : Type} (P : Program) (t : TypeId) (d : Kd α) (S : α → Prop) : Prop :=
 ∀ {H : Type} {enc : TypeId × Value → H} {w : World} {fuel : Nat} {cs : List Value} {x : DataW H × List MemPlace},
  DataW.trod enc P w 0 (fun _ => true) true fuel t cs = some x → (∀ n ∈ DataW.weights P t x.1, n ≤ reachBytes) → ∃ a, d.K w a cs ∧ S a
theorem opens_int {P : Program} {t : TypeId} {k : IntKind} (ht : P.underlying t = some (.int k)) : Opens P t (Kd.int k) (fun a => (Lit.int k a).wf = true) := by
 intro H enc w fuel cs x h _
 obtain ⟨n, rfl, _, hw⟩ := DataW.trod_int ht h
 exact ⟨n, rfl, hw⟩
theorem opens_bool {P : Program} {t : TypeId} (ht : P.underlying t = some .bool) : Opens P t Kd.bool (fun _ => True) := by
 intro H enc w fuel cs x h _
 obtain ⟨b, rfl, _⟩ := DataW.trod_bool ht h
 exact ⟨b, rfl, trivial⟩
theorem opens_string {P : Program} {t : TypeId} (ht : P.underlying t = some .string) : Opens P t Kd.string (fun a => a.size ≤ 140737488351232) := by
 intro H enc w fuel cs x h hw
 obtain ⟨s, rfl, hx, _⟩ := DataW.trod_string ht h
 subst hx
 refine ⟨s, rfl, ?_⟩
 have := hw s.data.toList.length (by simp [DataW.weights])
 rw [Array.length_toList] at this
 exact this
theorem weightsAll_mem {H : Type} {P : Program} {e : TypeId} : ∀ {l : List (DataW H)} {d : DataW H}, d ∈ l → ∀ n ∈ DataW.weights P e d, n ∈ DataW.weightsAll P e l
 | [], _, h, _, _ => by cases h
 | c :: l, d, h, n, hn => by
  rw [DataW.weightsAll, List.mem_append]
  rcases List.mem_cons.1 h with rfl | h
  ·exact .inl hn
  ·exact .inr (weightsAll_mem h n hn)
theorem opens_slice {α : Type} {P : Program} {t e : TypeId} {d : Kd α} {S : α → Prop} {B : Nat} (ht : P.underlying t = some (.slice e)) (hd : d.sz = P.cellsOf e) (hB : P.bytesOf e = B) (ho : Opens P e d S) :
  Opens P t (Kd.slice e d) (fun xs => xs.length * B ≤ 140737488351232 ∧ ∀ a ∈ xs, S a) := by
 intro H enc w fuel cs x h hw
 rcases DataW.trod_slice ht h with ⟨rfl, _⟩ | ⟨a, len, cap, elems, rest, n, rfl, rfl, rfl, _, hlc, hcm, hl, hel0, _, _⟩
 ·exact ⟨[], ⟨none, 0, rfl, Nat.le_refl _, by exact ⟨rfl, by simp, fun h => absurd h (Nat.lt_irrefl _)⟩⟩, by simp, by simp⟩
 ·have hsz : elems.length * B ≤ 140737488351232 := by
   have := hw (((elems.map (·.1)).length + (rest.map (·.1)).length) * P.bytesOf e) (by simp [DataW.weights, ht])
   rw [hB] at this
   simp only [List.length_map] at this
   exact Nat.le_trans (Nat.mul_le_mul_right _ (Nat.le_add_right _ _)) this
  have hel : ∀ i, i < len → ∃ (c : List Value) (b : α), w.cells? 0 (a.add (i * P.cellsOf e)) (P.cellsOf e) = some c ∧ d.K w b c ∧ S b := by
   intro i hi
   have hg := hel0 i hi
   rw [List.getElem?_eq_getElem (show i < elems.length by omega)] at hg
   obtain ⟨c, hc1, hc2⟩ := Option.bind_eq_some_iff.1 hg
   obtain ⟨b, hb1, hb2⟩ := ho hc2 (fun m hm => hw m (by
    simp only [DataW.weights, ht, List.mem_cons, List.mem_append]
    exact .inr (.inl (weightsAll_mem (List.mem_map_of_mem (List.getElem_mem (show i < elems.length by omega))) m hm))))
   exact ⟨c, b, hc1, hb1, hb2⟩
  have hch : ∀ m, m ≤ len → ∃ ys : List α, ys.length = m ∧ ∀ i, i < m → ∃ (c : List Value) (b : α), ys[i]? = some b ∧ w.cells? 0 (a.add (i * P.cellsOf e)) (P.cellsOf e) = some c ∧ d.K w b c ∧ S b := by
   intro m
   induction m with
   | zero => exact fun _ => ⟨[], rfl, fun i hi => absurd hi (Nat.not_lt_zero _)⟩
   | succ m ih =>
    intro hm
    obtain ⟨ys, h1, h2⟩ := ih (by omega)
    obtain ⟨c, b, h3, h4, h5⟩ := hel m (by omega)
    refine ⟨ys ++ [b], by simp [h1], fun i hi => ?_⟩
    by_cases him : i < m
    ·obtain ⟨c', b', g1, g2⟩ := h2 i him
     exact ⟨c', b', by rw [List.getElem?_append_left (by omega)]; exact g1, g2⟩
    ·obtain rfl : i = m := by omega
     exact ⟨c, b, by rw [List.getElem?_append_right (by omega)]; simp [h1], h3, h4, h5⟩
  obtain ⟨ys, hy1, hy2⟩ := hch len (Nat.le_refl _)
  refine ⟨ys, ⟨some a, cap, by rw [hy1], by omega, ⟨rfl, ?_, fun _ => ⟨a, rfl, fun j p hj => ?_⟩⟩⟩, by rw [hy1, ← hl]; exact hsz, fun b hb => ?_⟩
  ·unfold maxLen at hcm; omega
  ·have hjl : j < len := by rw [← hy1]; exact (List.getElem?_eq_some_iff.1 hj).1
   obtain ⟨c, b, g1, g2, g3, g4⟩ := hy2 j hjl
   rw [hj] at g1
   injection g1 with g1
   subst g1
   obtain ⟨_, g5, g6⟩ := World.cells?_some g2
   refine ⟨c, by rw [g5, hd], g3, fun i u hu => ?_⟩
   have hi : i < P.cellsOf e := by rw [← g5]; exact (List.getElem?_eq_some_iff.1 hu).1
   have := g6 i hi
   rw [hu] at this
   rw [← this, hd]
   congr 1
   unfold Addr.add
   by_cases h1 : j * P.cellsOf e = 0 <;> by_cases h2 : i = 0 <;> simp [h1, h2, Nat.add_assoc]
  ·obtain ⟨i, hi⟩ := List.getElem?_of_mem hb
   have hil : i < len := by rw [← hy1]; exact (List.getElem?_eq_some_iff.1 hi).1
   obtain ⟨c, b', g1, g2, g3, g4⟩ := hy2 i hil
   rw [hi] at g1
   injection g1 with g1
   subst g1
   exact g4
/-- Fields in line, from a place on. -/
def OpensF {α : Type} (P : Program) (off : Nat) (fs : List Field) (d : Kd α) (S : α → Prop) : Prop :=
 ∀ {H : Type} {enc : TypeId × Value → H} {w : World} {fuel : Nat} {cs : List Value} {xs : List (DataW H × List MemPlace)}, xs.length = fs.length →
  (∀ (i : Nat) (f : Field), fs[i]? = some f → DataW.trod enc P w 0 (fun _ => true) true fuel f.type ((cs.drop f.offset).take (P.cellsOf f.type)) = xs[i]?) → cs.length = off + d.sz →
  (∀ n ∈ DataW.weightsEach P (fs.map (·.type)) (xs.map (·.1)), n ≤ reachBytes) → ∃ a, d.K w a (cs.drop off) ∧ S a
theorem opens_last {α : Type} {P : Program} {off : Nat} {f : Field} {d : Kd α} {S : α → Prop} (ho : Opens P f.type d S) (hf : f.offset = off) (hd : d.sz = P.cellsOf f.type) : OpensF P off [f] d S := by
 intro H enc w fuel cs xs hlen h hl hw
 match xs, hlen with
 | [x], _ =>
  have hx := h 0 f rfl
  obtain ⟨a, h1, h2⟩ := ho hx (fun n hn => hw n (by simp only [List.map_cons, List.map_nil, DataW.weightsEach, List.mem_append]; exact .inl hn))
  refine ⟨a, ?_, h2⟩
  rw [hf, List.take_of_length_le (by simp; omega)] at h1
  exact h1
theorem opens_next {α β : Type} {P : Program} {off : Nat} {f : Field} {fs : List Field} {d : Kd α} {d2 : Kd β} {S : α → Prop} {S2 : β → Prop} (ho : Opens P f.type d S) (hf : f.offset = off) (hd : d.sz = P.cellsOf f.type) (hr : OpensF P (off + d.sz) fs d2 S2) :
  OpensF P off (f :: fs) (Kd.pair d d2) (fun a => S a.1 ∧ S2 a.2) := by
 intro H enc w fuel cs xs hlen h hl hw
 have hl' : cs.length = off + (d.sz + d2.sz) := hl
 match xs, hlen with
 | x :: ys, hlen =>
  have hx := h 0 f rfl
  obtain ⟨a, h1, h2⟩ := ho hx (fun n hn => hw n (by simp only [List.map_cons, DataW.weightsEach, List.mem_append]; exact .inl hn))
  obtain ⟨b, h3, h4⟩ := hr (by simpa using hlen) (fun i g hg => h (i + 1) g (by simpa using hg)) (by omega) (fun n hn => hw n (by simp only [List.map_cons, DataW.weightsEach, List.mem_append]; exact .inr hn))
  rw [hf, ← hd] at h1
  refine ⟨(a, b), ⟨(cs.drop off).take d.sz, cs.drop (off + d.sz), ?_, h1, h3⟩, h2, h4⟩
  rw [← List.drop_drop, List.take_append_drop]
theorem opens_struct {α β : Type} {P : Program} {t : TypeId} {fs : Array Field} {d : Kd α} {S : α → Prop} (ht : P.underlying t = some (.struct fs)) (hd : d.sz = P.cellsOf t) (hf : OpensF P 0 fs.toList d S) (g : β → α) (gi : α → β) (hg : ∀ a, g (gi a) = a) :
  Opens P t (Kd.iso d g) (fun b => S (g b)) := by
 intro H enc w fuel cs x h hw
 obtain ⟨xs, n, rfl, rfl, hl, hlen, hi⟩ := DataW.trod_struct ht h
 obtain ⟨a, h1, h2⟩ := hf (xs := xs) (by simpa using hlen) (fun i f hf => hi i f (by simpa using hf)) (by rw [hl, hd]; omega) (fun n hn => hw n (by simpa only [DataW.weights, ht] using hn))
 exact ⟨gi a, by show d.K w (g (gi a)) cs; rw [hg]; simpa using h1, by show S (g (gi a)); rw [hg]; exact h2⟩
/-- An argument of a law, as_ a walk takes it. -/
theorem opens_arg {α H : Type} {enc : TypeId × Value → H} {P : Program} {w : World} {t : TypeId} {v : Value} {x : DataW H} {ps : List MemPlace} {ts : List TypeId} {ds : List (DataW H)} {j : Nat} {d : Kd α} {S : α → Prop} (ho : Opens P t d S)
  (hsz : (DataW.weightsEach P ts ds).all (· ≤ reachBytes) = true) (ht : ts[j]? = some t) (hd : ds[j]? = some x) (h : DataW.Trod enc P w 0 (fun _ => true) true t v x ps) : ∃ a, d.K w a v.cells.toList ∧ S a := by
 obtain ⟨fuel, hf⟩ := h
 refine ho hf (fun n hn => ?_)
 have := List.all_eq_true.1 hsz n (DataW.weights_mem_each ht hd n hn)
 simpa using this
end Go.Proofs.Ytpojadoklfdfiaa.B

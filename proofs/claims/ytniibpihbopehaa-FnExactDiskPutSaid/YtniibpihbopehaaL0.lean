/- A law's arguments, as the small machine takes them; what a law's call leaves. -/
import Derived.Test.YtniibpihbopehaaQ0
import Derived.ProofKit
import Derived.SizedLaws
import Derived.WideShapes
import Derived.Below
namespace Go.Proofs.Ytniibpihbopehaa.M
open Go Go.RowKit Go.ChangeShapes Go.WideShapes
set_option linter.unusedVariables false
set_option linter.unusedSimpArgs false
/-- Cells that read as these. -/
structure Rds (w : World) (vs : List V) (cs : List Value) : Prop where
  len : cs.length = vs.length
  get : ∀ (k : Nat) (v : V) (u : Value), vs[k]? = some v → cs[k]? = some u → Rd w (oldRo w) v u
theorem Rds.nil (w : World) : Rds w [] [] := ⟨rfl, fun k v u h => by simp at h⟩
theorem Rds.one {w : World} {v : V} {u : Value} (h : Rd w (oldRo w) v u) : Rds w [v] [u] := ⟨rfl, fun k v' u' h1 h2 => by
  cases k with
  | zero => simp at h1 h2; subst h1; subst h2; exact h
  | succ k => simp at h1⟩
theorem Rds.app {w : World} {vs vs' : List V} {cs : List Value} (h : Rds w vs (cs.take vs.length)) (h' : Rds w vs' (cs.drop vs.length)) (hl : cs.length = vs.length + vs'.length) : Rds w (vs ++ vs') cs := by
  refine ⟨by simp [hl], fun k v u h1 h2 => ?_⟩
  by_cases hk : k < vs.length
  · rw [List.getElem?_append_left hk] at h1
    exact h.get k v u h1 (by rw [List.getElem?_take, if_pos hk]; exact h2)
  · rw [List.getElem?_append_right (by omega)] at h1
    exact h'.get (k - vs.length) v u h1 (by rw [List.getElem?_drop, show vs.length + (k - vs.length) = k by omega]; exact h2)
/-- What reads as data of type t is some a, told by E, and keeps S. -/
def Opens {α : Type} (P : Program) (t : TypeId) (n : Nat) (E : α → List V) (S : α → Prop) : Prop :=
  P.cellsOf t = n ∧ (∀ a, (E a).length = n) ∧ ∀ {H : Type} {enc : TypeId × Value → H} {w : World} {fuel : Nat} {cs : List Value} {x : DataW H × List MemPlace},
  DataW.trod enc P w 0 (fun _ => true) true fuel t cs = some x → (∀ n ∈ DataW.weights P t x.1, n ≤ reachBytes) → ∃ a, Rds w (E a) cs ∧ S a
def eInt (k : IntKind) (n : Int) : List V := [.lit (.int k n)]
def eBool (b : Bool) : List V := [.lit (.bool b)]
def eStr (s : ByteArray) : List V := [.lit (.string s)]
def eRow {α : Type} (n : Nat) (E : α → List V) (xs : List α) : List V := [.own n (xs.map E)]
def eTwo {α β : Type} (E : α → List V) (F : β → List V) (p : α × β) : List V := E p.1 ++ F p.2
theorem opens_int {P : Program} {t : TypeId} {k : IntKind} (ht : P.underlying t = some (.int k)) (hc : P.cellsOf t = 1) : Opens P t 1 (eInt k) (fun a => (Lit.int k a).wf = true) := by
  refine ⟨hc, fun _ => rfl, ?_⟩
  intro H enc w fuel cs x h _
  obtain ⟨n, rfl, _, hw⟩ := DataW.trod_int ht h
  exact ⟨n, .one (.lit _), hw⟩
theorem opens_bool {P : Program} {t : TypeId} (ht : P.underlying t = some .bool) (hc : P.cellsOf t = 1) : Opens P t 1 eBool (fun _ => True) := by
  refine ⟨hc, fun _ => rfl, ?_⟩
  intro H enc w fuel cs x h _
  obtain ⟨b, rfl, _⟩ := DataW.trod_bool ht h
  exact ⟨b, .one (.lit _), trivial⟩
theorem opens_string {P : Program} {t : TypeId} (ht : P.underlying t = some .string) (hc : P.cellsOf t = 1) : Opens P t 1 eStr (fun a => a.size ≤ 140737488351232) := by
  refine ⟨hc, fun _ => rfl, ?_⟩
  intro H enc w fuel cs x h hw
  obtain ⟨s, rfl, hx, _⟩ := DataW.trod_string ht h
  subst hx
  refine ⟨s, .one (.lit _), ?_⟩
  have := hw s.data.toList.length (by simp [DataW.weights])
  rw [Array.length_toList] at this
  exact this
theorem weightsAll_mem {H : Type} {P : Program} {e : TypeId} : ∀ {l : List (DataW H)} {d : DataW H}, d ∈ l → ∀ n ∈ DataW.weights P e d, n ∈ DataW.weightsAll P e l
  | [], _, h, _, _ => by cases h
  | c :: l, d, h, n, hn => by
    rw [DataW.weightsAll, List.mem_append]
    rcases List.mem_cons.1 h with rfl | h
    · exact .inl hn
    · exact .inr (weightsAll_mem h n hn)
theorem cell_spot {w : World} {A : Addr} {u : Value} (h : w.cell? A = some u) : A.spot = none ∧ A.block < w.heap.size := by
  unfold World.cell? at h
  split at h
  · rename_i c e f hb
    split at h
    · cases h
    · rename_i hs
      exact ⟨by simpa using hs, (Array.getElem?_eq_some_iff.1 hb).1⟩
  · cases h
theorem opens_slice {α : Type} {P : Program} {t e : TypeId} {n : Nat} {E : α → List V} {S : α → Prop} {B : Nat} (ht : P.underlying t = some (.slice e)) (hc : P.cellsOf t = 1) (hB : P.bytesOf e = B) (ho : Opens P e n E S) (hn : 0 < n) :
    Opens P t 1 (eRow n E) (fun xs => xs.length * B ≤ 140737488351232 ∧ ∀ a ∈ xs, S a) := by
  obtain ⟨hd, hE, ho⟩ := ho
  refine ⟨hc, fun _ => rfl, ?_⟩
  intro H enc w fuel cs x h hw
  rcases DataW.trod_slice ht h with ⟨rfl, _⟩ | ⟨a, len, cap, elems, rest, fu, rfl, rfl, rfl, _, hlc, hcm, hl, hel0, _, _⟩
  · exact ⟨[], .one (.nil (.inl rfl)), by simp, by simp⟩
  · have hsz : elems.length * B ≤ 140737488351232 := by
      have := hw (((elems.map (·.1)).length + (rest.map (·.1)).length) * P.bytesOf e) (by simp [DataW.weights, ht])
      rw [hB] at this
      simp only [List.length_map] at this
      exact Nat.le_trans (Nat.mul_le_mul_right _ (Nat.le_add_right _ _)) this
    have hel : ∀ i, i < len → ∃ (c : List Value) (b : α), w.cells? 0 (a.add (i * P.cellsOf e)) (P.cellsOf e) = some c ∧ Rds w (E b) c ∧ S b := by
      intro i hi
      have hg := hel0 i hi
      rw [List.getElem?_eq_getElem (show i < elems.length by omega)] at hg
      obtain ⟨c, hc1, hc2⟩ := Option.bind_eq_some_iff.1 hg
      obtain ⟨b, hb1, hb2⟩ := ho hc2 (fun m hm => hw m (by
        simp only [DataW.weights, ht, List.mem_cons, List.mem_append]
        exact .inr (.inl (weightsAll_mem (List.mem_map_of_mem (List.getElem_mem (show i < elems.length by omega))) m hm))))
      exact ⟨c, b, hc1, hb1, hb2⟩
    have hch : ∀ m, m ≤ len → ∃ ys : List α, ys.length = m ∧ ∀ i, i < m → ∃ (c : List Value) (b : α), ys[i]? = some b ∧ w.cells? 0 (a.add (i * P.cellsOf e)) (P.cellsOf e) = some c ∧ Rds w (E b) c ∧ S b := by
      intro m
      induction m with
      | zero => exact fun _ => ⟨[], rfl, fun i hi => absurd hi (Nat.not_lt_zero _)⟩
      | succ m ih =>
        intro hm
        obtain ⟨ys, h1, h2⟩ := ih (by omega)
        obtain ⟨c, b, h3, h4, h5⟩ := hel m (by omega)
        refine ⟨ys ++ [b], by simp [h1], fun i hi => ?_⟩
        by_cases him : i < m
        · obtain ⟨c', b', g1, g2⟩ := h2 i him
          exact ⟨c', b', by rw [List.getElem?_append_left (by omega)]; exact g1, g2⟩
        · obtain rfl : i = m := by omega
          exact ⟨c, b, by rw [List.getElem?_append_right (by omega)]; simp [h1], h3, h4, h5⟩
    obtain ⟨ys, hy1, hy2⟩ := hch len (Nat.le_refl _)
    refine ⟨ys, .one ?_, by rw [hy1, ← hl]; exact hsz, fun b hb => ?_⟩
    · by_cases h0 : ys = []
      · have : len = 0 := by rw [← hy1, h0]; rfl
        subst this h0
        exact .nil (.inl rfl)
      · have hpos : 0 < len := by
          rw [← hy1]
          exact List.length_pos_iff.2 h0
        have raw : ∀ i k : Nat, i < len → k < n → ∃ c b u, ys[i]? = some b ∧ Rds w (E b) c ∧ c[k]? = some u ∧ w.cell? ((a.add (i * n)).add k) = some u := by
          intro i k hi hk
          obtain ⟨c, b, g1, g2, g3, g4⟩ := hy2 i hi
          obtain ⟨_, g5, g6⟩ := World.cells?_some g2
          rw [hd] at g5
          have hkc : k < c.length := by omega
          refine ⟨c, b, c[k], g1, g3, List.getElem?_eq_getElem hkc, ?_⟩
          have := g6 k (by omega)
          rw [List.getElem?_eq_getElem hkc, hd] at this
          exact this
        obtain ⟨c0, b0, u0, _, _, _, hc0⟩ := raw 0 0 hpos hn
        obtain ⟨hs, hb⟩ := cell_spot hc0
        have e0 : (a.add (0 * n)).add 0 = a := by simp [Addr.add]
        rw [e0] at hs hb
        have cell : ∀ i k : Nat, i < len → k < n → ∃ c b u, ys[i]? = some b ∧ Rds w (E b) c ∧ c[k]? = some u ∧ w.cell? ⟨a.block, a.off + i * n + k, none⟩ = some u := by
          intro i k hi hk
          obtain ⟨c, b, u, g1, g2, g3, g4⟩ := raw i k hi hk
          rw [add_of_spot hs, add_of_spot rfl] at g4
          exact ⟨c, b, u, g1, g2, g3, g4⟩
        have hlen : (ys.map E).length = len := by simp [hy1]
        have key : ∀ i k v, cellAt (ys.map E) i k = some v → ∃ u, w.cell? ⟨a.block, a.off + i * n + k, none⟩ = some u ∧ Rd w (oldRo w) v u := by
          intro i k v hv
          unfold cellAt at hv
          rw [List.getElem?_map] at hv
          cases hy : ys[i]? with
          | none => rw [hy] at hv; cases hv
          | some b =>
            rw [hy] at hv
            simp only [Option.map_some, Option.bind_some] at hv
            have hi : i < len := by rw [← hy1]; exact (List.getElem?_eq_some_iff.1 hy).1
            have hk : k < n := by rw [← hE b]; exact (List.getElem?_eq_some_iff.1 hv).1
            obtain ⟨c, b', u, g1, g2, g3, g4⟩ := cell i k hi hk
            rw [hy] at g1
            cases g1
            exact ⟨u, g4, g2.get k v u hv g3⟩
        have := Rd.row (w := w) (Ro := oldRo w) (v := .own n (ys.map E)) (xs := ys.map E) (sz := n) (A := a) (c := cap) (fun i k => (w.cell? ⟨a.block, a.off + i * n + k, none⟩).getD .nilIface) (.inl rfl) hs hb (by rw [hlen]; exact hlc)
          (fun i x hx => by
            rw [List.getElem?_map] at hx
            obtain ⟨b, _, rfl⟩ := Option.map_eq_some_iff.1 hx
            exact hE b) (fun i k v hv => by
            obtain ⟨u, g1, g2⟩ := key i k v hv
            rw [g1]; rfl) (fun i k v hv => by
            obtain ⟨u, g1, g2⟩ := key i k v hv
            rw [g1]; exact g2)
        rw [hlen] at this
        exact this
    · obtain ⟨i, hi⟩ := List.getElem?_of_mem hb
      have hil : i < len := by rw [← hy1]; exact (List.getElem?_eq_some_iff.1 hi).1
      obtain ⟨c, b', g1, g2, g3, g4⟩ := hy2 i hil
      rw [hi] at g1
      injection g1 with g1
      subst g1
      exact g4
/-- Fields in line, from a place on. -/
def OpensF {α : Type} (P : Program) (off : Nat) (fs : List Field) (n : Nat) (E : α → List V) (S : α → Prop) : Prop :=
  (∀ a, (E a).length = n) ∧ ∀ {H : Type} {enc : TypeId × Value → H} {w : World} {fuel : Nat} {cs : List Value} {xs : List (DataW H × List MemPlace)}, xs.length = fs.length →
  (∀ (i : Nat) (f : Field), fs[i]? = some f → DataW.trod enc P w 0 (fun _ => true) true fuel f.type ((cs.drop f.offset).take (P.cellsOf f.type)) = xs[i]?) → cs.length = off + n →
  (∀ n ∈ DataW.weightsEach P (fs.map (·.type)) (xs.map (·.1)), n ≤ reachBytes) → ∃ a, Rds w (E a) (cs.drop off) ∧ S a
theorem opens_last {α : Type} {P : Program} {off : Nat} {f : Field} {n : Nat} {E : α → List V} {S : α → Prop} (ho : Opens P f.type n E S) (hf : f.offset = off) : OpensF P off [f] n E S := by
  obtain ⟨hd, hE, ho⟩ := ho
  refine ⟨hE, ?_⟩
  intro H enc w fuel cs xs hlen h hl hw
  match xs, hlen with
  | [x], _ =>
    have hx := h 0 f rfl
    obtain ⟨a, h1, h2⟩ := ho hx (fun n hn => hw n (by simp only [List.map_cons, List.map_nil, DataW.weightsEach, List.mem_append]; exact .inl hn))
    refine ⟨a, ?_, h2⟩
    rw [hf, List.take_of_length_le (by simp; omega)] at h1
    exact h1
theorem opens_next {α β : Type} {P : Program} {off : Nat} {f : Field} {fs : List Field} {n m : Nat} {E : α → List V} {F : β → List V} {S : α → Prop} {S2 : β → Prop} (ho : Opens P f.type n E S) (hf : f.offset = off) (hr : OpensF P (off + n) fs m F S2) :
    OpensF P off (f :: fs) (n + m) (eTwo E F) (fun a => S a.1 ∧ S2 a.2) := by
  obtain ⟨hd, hE, ho⟩ := ho
  obtain ⟨hF, hr⟩ := hr
  refine ⟨fun a => by simp [eTwo, hE, hF], ?_⟩
  intro H enc w fuel cs xs hlen h hl hw
  match xs, hlen with
  | x :: ys, hlen =>
    have hx := h 0 f rfl
    obtain ⟨a, h1, h2⟩ := ho hx (fun n hn => hw n (by simp only [List.map_cons, DataW.weightsEach, List.mem_append]; exact .inl hn))
    obtain ⟨b, h3, h4⟩ := hr (by simpa using hlen) (fun i g hg => h (i + 1) g (by simpa using hg)) (by omega) (fun n hn => hw n (by simp only [List.map_cons, DataW.weightsEach, List.mem_append]; exact .inr hn))
    rw [hf, hd] at h1
    refine ⟨(a, b), ?_, h2, h4⟩
    refine Rds.app (by rw [hE]; exact h1) (by rw [hE, List.drop_drop]; exact h3) (by simp [hE, hF]; omega)
theorem opens_struct {α β : Type} {P : Program} {t : TypeId} {fs : Array Field} {n : Nat} {E : α → List V} {S : α → Prop} (ht : P.underlying t = some (.struct fs)) (hd : P.cellsOf t = n) (hf : OpensF P 0 fs.toList n E S) (g : β → α) (gi : α → β) (hg : ∀ a, g (gi a) = a) :
    Opens P t n (fun b => E (g b)) (fun b => S (g b)) := by
  obtain ⟨hE, hf⟩ := hf
  refine ⟨hd, fun b => hE _, ?_⟩
  intro H enc w fuel cs x h hw
  obtain ⟨xs, fu, rfl, rfl, hl, hlen, hi⟩ := DataW.trod_struct ht h
  obtain ⟨a, h1, h2⟩ := hf (xs := xs) (by simpa using hlen) (fun i f hf => hi i f (by simpa using hf)) (by rw [hl, hd]; omega) (fun n hn => hw n (by simpa only [DataW.weights, ht] using hn))
  exact ⟨gi a, by show Rds w (E (g (gi a))) cs; rw [hg]; simpa using h1, by show S (g (gi a)); rw [hg]; exact h2⟩
/-- An argument of a law. -/
theorem opens_arg {α H : Type} {enc : TypeId × Value → H} {P : Program} {w : World} {t : TypeId} {v : Value} {x : DataW H} {ps : List MemPlace} {ts : List TypeId} {ds : List (DataW H)} {j : Nat} {n : Nat} {E : α → List V} {S : α → Prop} (ho : Opens P t n E S)
    (hsz : (DataW.weightsEach P ts ds).all (· ≤ reachBytes) = true) (ht : ts[j]? = some t) (hd : ds[j]? = some x) (h : DataW.Trod enc P w 0 (fun _ => true) true t v x ps) : ∃ a, Rds w (E a) v.cells.toList ∧ S a := by
  obtain ⟨fuel, hf⟩ := h
  refine ho.2.2 hf (fun n hn => ?_)
  have := List.all_eq_true.1 hsz n (DataW.weights_mem_each ht hd n hn)
  simpa using this
/-- What is read, in a slot: a slice's row under its other name. -/
def slot : V → V
  | .own n xs => .imm n xs
  | v => v
theorem Rd.slot {w : World} {Ro : Nat → Prop} {v : V} {u : Value} (h : Rd w Ro v u) (M : Mp) : VR M w Ro (slot v) u := by
  cases h with
  | lit => exact .lit _
  | undef => exact .undef _
  | nil h => rcases h with rfl | rfl <;> exact .imm (.nil (.inr rfl))
  | row U h h1 h2 h3 h4 h5 h6 => rcases h with rfl | rfl <;> exact .imm (.row U (.inr rfl) h1 h2 h3 h4 h5 h6)
theorem Rds.agg {w : World} {vs : List V} {us : Array Value} (h : Rds w vs us.toList) (M : Mp) : VR M w (oldRo w) (.agg (vs.map slot)) (.agg us) :=
  .agg (by have := h.len; simpa using this) (fun k v u hv hu => by
    rw [List.getElem?_map] at hv
    obtain ⟨x, hx, rfl⟩ := Option.map_eq_some_iff.1 hv
    exact (h.get k x u hx (by simpa using hu)).slot M)
theorem Rds.cell {w : World} {v : V} {u : Value} (h : Rds w [v] [u]) (M : Mp) : VR M w (oldRo w) (slot v) u := (h.get 0 v u rfl rfl).slot M
def VRl (M : Mp) (w : World) (Ro : Nat → Prop) : List V → List Value → Prop
  | [], [] => True
  | c :: cs, u :: us => VR M w Ro c u ∧ VRl M w Ro cs us
  | _, _ => False
theorem vrs_list {M : Mp} {w : World} {Ro : Nat → Prop} : ∀ {cs : List V} {us : List Value}, VRl M w Ro cs us → VRs M w Ro cs us.toArray
  | [], [], _ => ⟨rfl, fun k v u h => by simp at h⟩
  | c :: cs, u :: us, ⟨h1, h2⟩ => by
    obtain ⟨g1, g2⟩ := vrs_list h2
    refine ⟨by simpa using g1, fun k v x hv hx => ?_⟩
    cases k with
    | zero => simp at hv hx; subst hv; subst hx; exact h1
    | succ k => exact g2 k v x (by simpa using hv) (by simpa using hx)
  | [], _ :: _, h => h.elim
  | _ :: _, [], h => h.elim
/-- A law's call. -/
theorem Fn.law {G : Pg} {f : Nat} {args : List V} {r : Value} {bs' : Bl} (h : Fn G f args [] (.lit r) bs') {w : World} (hg : GlobOk w (oldRo w)) {vals : Array Value} (hv : VRs (fun _ _ => none) w (oldRo w) args vals) : Calls G.P f vals w fun e w' => e = .returned r ∧ Below w.heap.size w w' := by
  let cx1 : Cx := ⟨w, oldRo w, fun _ _ => False, 0, fun _ => False, fun _ _ => none, fun k hk => hk, fun _ _ _ h => h, hg⟩
  refine (h.2 cx1 (fun _ _ => none) vals (relB_nil w cx1 rfl _ rfl) hv).mono fun e w' hw => ?_
  obtain ⟨u, M', rfl, R', hr⟩ := hw
  have e := hr.lit_
  subst e
  have k : Kp (fun _ _ => False) w w' := R'.keep
  exact ⟨rfl, ⟨k.os, k.tape, k.output, k.size, fun b hb => k.block b hb (fun _ h => h)⟩⟩
end Go.Proofs.Ytniibpihbopehaa.M

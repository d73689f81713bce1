/- 'qwp' is right: all operations. -/
import Derived.Test.YtniibpihbopehaaM7
namespace Go.Proofs.Ytniibpihbopehaa.M
open Go Go.RowKit
set_option linter.unusedVariables false
set_option linter.unusedSimpArgs false
variable {cx : Cx} {M : Mp} {st : St} {a : Act} {w : World} {G : Pg} {K : V → Prop} {o : Oper} {C : World → Prop}
theorem VR.one {Ro : Nat → Prop} {v : V} {u : Value} (h : VR M w Ro v u) (ho : oneV v = true) : u.cells = #[u] ∧ u.oneCell' = true := by
  cases h <;> simp only [oneV, Bool.false_eq_true] at ho
  case lit => exact ⟨by cases u <;> first | rfl | (simp [Value.oneCell'] at ho), ho⟩
  case imm hrd => cases hrd with
    | nil hn => exact ⟨rfl, rfl⟩
    | row => exact ⟨rfl, rfl⟩
  all_goals exact ⟨rfl, rfl⟩
theorem foldl_set (off : Nat) (l : List Value) : ∀ (k : Nat) (cells : Array Value), ((l.zipIdx k).foldl (fun cs (p : Value × Nat) => cs.setIfInBounds (off + p.2) p.1) cells).size = cells.size ∧
    ∀ j : Nat, ((l.zipIdx k).foldl (fun cs (p : Value × Nat) => cs.setIfInBounds (off + p.2) p.1) cells)[j]? = if off + k ≤ j ∧ j < off + k + l.length ∧ j < cells.size then l[j - (off + k)]? else cells[j]? := by
  induction l with
  | nil => intro k cells; refine ⟨rfl, fun j => ?_⟩; rw [if_neg (by simp; omega)]; rfl
  | cons v l ih =>
    intro k cells
    simp only [List.zipIdx_cons, List.foldl_cons]
    obtain ⟨h1, h2⟩ := ih (k + 1) (cells.setIfInBounds (off + k) v)
    refine ⟨by rw [h1]; simp, fun j => ?_⟩
    rw [h2 j]
    simp only [Array.size_setIfInBounds, List.length_cons]
    by_cases hj : off + (k + 1) ≤ j ∧ j < off + (k + 1) + l.length ∧ j < cells.size
    · rw [if_pos hj, if_pos (by omega), show j - (off + k) = (j - (off + (k + 1))) + 1 by omega, List.getElem?_cons_succ]
    · rw [if_neg hj, Array.getElem?_setIfInBounds]
      by_cases e : off + k = j
      · subst e
        by_cases hs : off + k < cells.size
        · rw [if_pos rfl, if_pos hs, if_pos (by omega)]; simp
        · rw [if_pos rfl, if_neg hs, if_neg (by omega), Array.getElem?_eq_none (by omega)]
      · rw [if_neg e, if_neg (by omega)]
theorem foldl_cells (off : Nat) (us cells : Array Value) : (us.zipIdx.foldl (fun cs (p : Value × Nat) => cs.setIfInBounds (off + p.2) p.1) cells).size = cells.size ∧
    ∀ j : Nat, (us.zipIdx.foldl (fun cs (p : Value × Nat) => cs.setIfInBounds (off + p.2) p.1) cells)[j]? = if off ≤ j ∧ j < off + us.size ∧ j < cells.size then us[j - off]? else cells[j]? := by
  have := foldl_set off us.toList 0 cells
  rw [← Array.foldl_toList, Array.toList_zipIdx]
  simpa using this
/-- Cells, told one by one. -/
def VRs (M : Mp) (w : World) (Ro : Nat → Prop) (cs : List V) (us : Array Value) : Prop := us.size = cs.length ∧ ∀ (k : Nat) (v : V) (u : Value), cs[k]? = some v → us[k]? = some u → VR M w Ro v u
theorem cellsV_ok {Ro : Nat → Prop} {v : V} {u : Value} (h : VR M w Ro v u) (ho : (cellsV v).all oneV = true) : VRs M w Ro (cellsV v) u.cells := by
  by_cases hv : ∃ cs, v = .agg cs
  · obtain ⟨cs, rfl⟩ := hv
    cases h with
    | agg h1 h2 => exact ⟨h1, h2⟩
  · have e : cellsV v = [v] := by cases v <;> first | rfl | exact absurd ⟨_, rfl⟩ hv
    rw [e] at ho ⊢
    have h1 := (h.one (by simpa using ho)).1
    rw [h1]
    refine ⟨rfl, fun k v' u' hv' hu' => ?_⟩
    cases k with
    | zero => simp at hv' hu'; subst hv'; subst hu'; exact h
    | succ k => simp at hv'
theorem putCells_length (cs vs : List V) (o : Nat) (h : o + vs.length ≤ cs.length) : (putCells cs o vs).length = cs.length := by simp [putCells]; omega
theorem putCells_get (cs vs : List V) (o : Nat) (h : o + vs.length ≤ cs.length) (j : Nat) : (putCells cs o vs)[j]? = if o ≤ j ∧ j < o + vs.length then vs[j - o]? else cs[j]? := by
  unfold putCells
  have hl : (cs.take o).length = o := by simp; omega
  by_cases h1 : j < o
  · rw [if_neg (by omega), List.append_assoc, List.getElem?_append_left (by omega), List.getElem?_take, if_pos h1]
  · by_cases h2 : j < o + vs.length
    · rw [if_pos (by omega), List.append_assoc, List.getElem?_append_right (by omega), hl, List.getElem?_append_left (by omega)]
    · rw [if_neg (by omega), List.getElem?_append_right (by simp; omega), List.getElem?_drop]
      congr 1; simp; omega
theorem fill_ok {Ro : Nat → Prop} {tt : Nat → Option Ty} {flds : List (Nat × Nat)} {place : Nat → Option (Nat × Nat)} (hpl : ∀ i o ft y, flds[i]? = some (o, ft) → tt ft = some y → place i = some (o, y.size)) {K : List V → Prop} :
    ∀ (parts : List (Nat × V)) (parts' : List (Nat × Value)) (cs : List V) (us : Array Value), setParts tt flds cs parts K → VRs M w Ro cs us → parts'.length = parts.length → (∀ (k : Nat) p p', parts[k]? = some p → parts'[k]? = some p' → p.1 = p'.1 ∧ VR M w Ro p.2 p'.2) →
      ∃ cs' us', K cs' ∧ Instr.fill place us parts' = some us' ∧ VRs M w Ro cs' us' := by
  intro parts
  induction parts with
  | nil =>
    intro parts' cs us h hv hl hp
    obtain rfl : parts' = [] := List.eq_nil_of_length_eq_zero (by simpa using hl)
    exact ⟨cs, us, h, rfl, hv⟩
  | cons p parts ih =>
    intro parts' cs us h hv hl hp
    obtain ⟨i, v⟩ := p
    cases parts' with
    | nil => simp at hl
    | cons p' parts' =>
      obtain ⟨i', u⟩ := p'
      obtain ⟨hi, hvu⟩ := hp 0 _ _ rfl rfl
      simp only at hi hvu
      subst hi
      simp only [setParts, chk_iff, decide_eq_true_eq, Bool.or_eq_true, Option.isNone_iff_eq_none, Array.isEmpty_iff, Bool.not_eq_true', Bool.and_eq_true] at h
      cases hf : flds[i]? with
      | none => rw [hf] at h; exact h.elim
      | some q =>
        obtain ⟨off, ft⟩ := q
        rw [hf] at h
        simp only at h
        cases hy : tt ft with
        | none => rw [hy] at h; exact h.elim
        | some y =>
          rw [hy] at h
          simp only at h
          obtain ⟨h1, h1o, h2, h3⟩ := h
          have hcs := cellsV_ok hvu h1o
          have hsz : u.cells.size = y.size := by rw [hcs.1, h1]
          have hgo : ¬ (u.cells.size ≠ y.size || decide (off + u.cells.size > us.size)) = true := by
            rw [hsz, hv.1]; simp; omega
          obtain ⟨g1, g2⟩ := foldl_cells off u.cells us
          have hv' : VRs M w Ro (putCells cs off (cellsV v)) (u.cells.zipIdx.foldl (fun cs (p : Value × Nat) => cs.setIfInBounds (off + p.2) p.1) us) := by
            refine ⟨by rw [g1, putCells_length _ _ _ (by omega)]; exact hv.1, fun k x z hx hz => ?_⟩
            rw [putCells_get _ _ _ (by omega)] at hx
            rw [g2] at hz
            by_cases hk : off ≤ k ∧ k < off + (cellsV v).length
            · rw [if_pos hk] at hx
              rw [if_pos (by have := hv.1; omega)] at hz
              exact hcs.2 _ _ _ hx hz
            · rw [if_neg hk] at hx
              rw [if_neg (by omega)] at hz
              exact hv.2 _ _ _ hx hz
          obtain ⟨cs', us', hK, hfill, hr⟩ := ih parts' _ _ h3 hv' (by simpa using hl) (fun k p p' hk hk' => hp (k + 1) p p' (by simpa using hk) (by simpa using hk'))
          refine ⟨cs', us', hK, ?_, hr⟩
          simp only [Instr.fill, hpl i off ft y hf hy]
          rw [if_neg hgo]
          exact hfill
theorem regZero_ok {Ro : Nat → Prop} {v : V} {u : Value} (h : ZR v u) : VR M w Ro (regZero v) u := by
  cases v <;> simp only [ZR] at h
  case lit x => obtain ⟨rfl, _⟩ := h; exact .lit _
  case own sz xs => cases xs with
    | nil => simp only [ZR] at h; subst h; exact .lit _
    | cons => simp only [ZR] at h
theorem mapM_run {P : Program} {α β : Type} (f : α → Sem β) (g : α → β) (l : List α) (w : World) (h : ∀ x ∈ l, (f x).run P w = .ok (g x) w) : (l.mapM f).run P w = .ok (l.map g) w := by
  induction l with
  | nil => rfl
  | cons x l ih =>
    simp only [List.mapM_cons, Sem.run_bind, h x (by simp), Result.andThen_ok, ih (fun y hy => h y (by simp [hy])), Sem.run_pure, List.map_cons]
theorem tells_build (R : Rel cx M st a w) (t : Nat) (parts : Array (Nat × Operand)) (ho : o.op = .build t parts) (h : qwp G.tt st.T st.B (.build t parts) K) : Tells G cx C M a w o K := by
  simp only [qwp, chk_iff, decide_eq_true_eq, Bool.or_eq_true, Option.isNone_iff_eq_none, Array.isEmpty_iff, Bool.not_eq_true', Bool.and_eq_true] at h
  cases hy : G.tt t with
  | none => rw [hy] at h; exact h.elim
  | some y =>
    rw [hy] at h
    simp only at h
    obtain ⟨hagg, hall, h⟩ := h
    obtain ⟨fs, hu, hfl⟩ := (G.ok t y hy).st hagg
    obtain ⟨i, z, hi, hs, _, hz, hzs, hzl, hzr, _⟩ := (G.ok t y hy).info
    have hrun : ∀ w, (fs.mapM fun f => do pure (f.offset, ← sizeOf f.type) : Sem _).run G.P w = .ok ((fs.toList.map fun f => (f.offset, ((G.tt f.type).getD {}).size)).toArray) w := by
      intro w
      rw [Array.mapM_eq_mapM_toList]
      simp only [Sem.run_map]
      rw [mapM_run _ (fun f : Field => (f.offset, ((G.tt f.type).getD {}).size)) fs.toList w ?_]
      · rfl
      · intro f hf
        have : (G.tt f.type).isSome = true := by
          have := List.all_eq_true.1 hall (f.offset, f.type) (by rw [← hfl]; exact List.mem_map_of_mem hf)
          exact this
        obtain ⟨yf, hyf⟩ := Option.isSome_iff_exists.1 this
        obtain ⟨i2, z2, hi2, hs2, _⟩ := (G.ok f.type yf hyf).info
        simp [run_sizeOf' hi2, hyf, hs2]
    have hzero : VRs M cx.w0 cx.Ro (y.zero.map regZero) z.cells := by
      refine ⟨by simp [hzs], fun k v u hv hu => ?_⟩
      rw [List.getElem?_map] at hv
      obtain ⟨x, hx, rfl⟩ := Option.map_eq_some_iff.1 hv
      exact regZero_ok (hzr k x u hx hu)
    obtain ⟨cs', us', hK, hfill, hr⟩ := fill_ok (M := M) (w := cx.w0) (Ro := cx.Ro) (place := fun i => ((fs.toList.map fun f => (f.offset, ((G.tt f.type).getD {}).size)).toArray)[i]?) (by
        intro i off ft yf hf hyf
        rw [← hfl, List.getElem?_map] at hf
        obtain ⟨fl, hf1, hf2⟩ := Option.map_eq_some_iff.1 hf
        simp only [Prod.mk.injEq] at hf2
        obtain ⟨rfl, rfl⟩ := hf2
        simp [hf1, hyf]) _ (parts.toList.map fun p => (p.1, a.eval p.2)) _ _ h hzero (by simp) (by
        intro k p p' hp hp'
        rw [List.getElem?_map] at hp hp'
        obtain ⟨x, hx, rfl⟩ := Option.map_eq_some_iff.1 hp
        obtain ⟨x', hx', rfl⟩ := Option.map_eq_some_iff.1 hp'
        rw [hx] at hx'; cases hx'
        exact ⟨rfl, R.ev_ _⟩)
    refine ⟨_, .agg us', hK, ?_, .agg hr.1 hr.2⟩
    intro w' _
    have hzv : (zeroValue t).run G.P w' = .ok z w' := by simp [zeroValue, typeInfo, hi, hz]
    simp only [execOp, ho, Instr.build, Sem.run_bind, hzv, Result.andThen_ok, run_underlying hu, hrun]
    have e : (Array.map (fun x : Nat × Operand => (x.1, a.eval x.2)) parts).toList = parts.toList.map fun p => (p.1, a.eval p.2) := by simp
    rw [e, hfill]
    rfl
end Go.Proofs.Ytniibpihbopehaa.M

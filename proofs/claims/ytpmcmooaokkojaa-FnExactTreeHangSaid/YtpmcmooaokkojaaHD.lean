/- What slices.Delete does with a row of numbers, as a contract of the small machine. -/
import Derived.Test.YtpmcmooaokkojaaQ2
import Derived.Test.YtpmcmooaokkojaaL0
import Derived.Test.YtpmcmooaokkojaaShelf
import Derived.Laws.IdiomCopy
namespace Go.Proofs.Ytpmcmooaokkojaa.M
open Go Go.RowKit
set_option linter.unusedVariables false
set_option linter.unusedSimpArgs false
variable {cx : Cx} {M : Mp} {st : St} {a : Act} {w : World}
abbrev rowJ (xs : List Int) : Row := xs.map fun x => [V.lit (.int .i64 x)]
theorem Rel.drewN (R : Rel cx M st a w) (q : Nat) : Rel cx M st a (w.drewN q) where
  defers := R.defers
  size := R.size
  regs := R.regs
  flat := fun b q top sz xs h => ⟨(R.flat b q top sz xs h).lens, (R.flat b q top sz xs h).none, (R.flat b q top sz xs h).there, (R.flat b q top sz xs h).cell⟩
  inj := R.inj
  away := R.away
  keep := ⟨R.keep.os, R.keep.tape, R.keep.output, R.keep.size, R.keep.shape, R.keep.cell, R.keep.block⟩
  root := R.root
/-- A row of numbers is written over. -/
theorem Rel.setInts {b : Nat} {A : Addr} {n : Nat} (hA : M b [] = some (A, n)) : ∀ (vs ys : List Int) (o : Nat) (st : St) (w : World), Rel cx M st a w → st.B b = some (false, 1, rowJ ys) → o + vs.length = ys.length →
    Rel cx M { T := st.T, B := upd st.B b (some (false, 1, rowJ (ys.take o ++ vs))) } a (w.setCells A.block (A.off + o) (vs.map (Value.int .i64)))
  | [], ys, o, st, w, R, hb, hl => by
    have e : upd st.B b (some (false, 1, rowJ (ys.take o ++ []))) = st.B := by
      funext b'
      unfold upd
      split
      · rename_i h
        subst h
        simp only [List.length_nil, Nat.add_zero] at hl
        rw [List.append_nil, hl, List.take_length, hb]
      · rfl
    rw [e]
    exact R
  | v :: vs, ys, o, st, w, R, hb, hl => by
    simp only [List.length_cons] at hl
    have ho : o < ys.length := by omega
    have h0 : rowsAt st.B b [] = some (false, 1, rowJ ys) := by rw [rowsAt_box hb]; rfl
    have hc : cellAt (rowJ ys) o 0 = some (.lit (.int .i64 ys[o])) := by
      unfold cellAt
      rw [List.getElem?_map, List.getElem?_eq_getElem ho]; rfl
    have R1 := R.store h0 hA hc (.lit (.int .i64 v)) (.int .i64 v) rfl rfl noPath rfl
    have e1 : (fun b' q' => if noPath b' q' = true then none else M b' q' : Mp) = M := by funext b' q'; rfl
    have e2 : (fun t => kill noPath (st.T t)) = st.T := by funext t; exact kill_no _
    rw [e1, e2, killB_no] at R1
    have e3 : setB st.B b [] (fun zs => setCell zs o 0 (.lit (.int .i64 v))) = upd st.B b (some (false, 1, rowJ (ys.set o v))) := by
      funext b'
      unfold setB upd
      split
      · rename_i h
        subst h
        rw [hb]
        simp only [Option.map_some, modAt, setCell]
        congr 3
        apply List.ext_getElem?
        intro i
        rw [List.getElem?_modify, List.getElem?_map, List.getElem?_map, List.getElem?_set]
        by_cases e : o = i
        · subst e
          simp [ho]
        · simp [e]
      · rfl
    rw [e3] at R1
    have R2 := Rel.setInts hA vs (ys.set o v) (o + 1) _ _ R1 (upd_same _ _ _) (by rw [List.length_set]; omega)
    have e4 : upd (upd st.B b (some (false, 1, rowJ (ys.set o v)))) b (some (false, 1, rowJ ((ys.set o v).take (o + 1) ++ vs))) = upd st.B b (some (false, 1, rowJ (ys.take o ++ v :: vs))) := by
      have e5 : (ys.set o v).take (o + 1) ++ vs = ys.take o ++ v :: vs := by
        rw [List.take_set, List.take_succ_eq_append_getElem ho, List.set_append_right _ _ (by rw [List.length_take]; omega)]
        simp [List.length_take, Nat.min_eq_left (Nat.le_of_lt ho)]
      rw [e5]
      funext b'
      unfold upd
      split <;> rfl
    simp only [e4] at R2
    simpa [World.setCells, Nat.add_assoc] using R2
/-- slices.Delete of a row of numbers that is handed in. -/
theorem F_slices_Delete (xs : List Int) (i j : Nat) (hij : i < j) (hj : j ≤ xs.length) : Fn pg 58 [.sl 0 [] 1 0 xs.length, .lit (.int .i64 i), .lit (.int .i64 j)] [(0, false, 1, rowJ xs)] (.sl 0 [] 1 0 (xs.length - (j - i))) [(0, false, 1, rowJ (xs.take i ++ xs.drop j ++ List.replicate (j - i) 0))] := by
  refine ⟨⟨_, Try.func58, rfl, rfl⟩, fun cx M vals R hv => ?_⟩
  obtain ⟨hsz, hv⟩ := hv
  have h3 : vals.size = 3 := hsz
  have h0 := hv 0 (.sl 0 [] 1 0 xs.length) _ rfl (Array.getElem?_eq_getElem (by omega))
  have h1 := hv 1 (.lit (.int .i64 i)) _ rfl (Array.getElem?_eq_getElem (by omega))
  have h2 := hv 2 (.lit (.int .i64 j)) _ rfl (Array.getElem?_eq_getElem (by omega))
  have e1 := h1.lit_
  have e2 := h2.lit_
  generalize hs : vals[0]'(by omega) = s at h0
  cases h0 with
  | @sl _ _ _ _ _ cap ad hle hfit =>
    obtain ⟨A, n, hM, rfl, hn⟩ := hfit (by omega)
    have hvals : vals = #[.slice (some ⟨A.block, A.off, none⟩) xs.length cap, .int .i64 i, .int .i64 j] := by
      apply Array.ext
      · exact hsz
      · intro k hk1 hk2
        have hk : k < 3 := hk2
        rcases (by omega : k = 0 ∨ k = 1 ∨ k = 2) with rfl | rfl | rfl
        · rw [hs]; simp
        · exact e1
        · exact e2
    have hb : toB [(0, false, 1, rowJ xs)] 0 = some (false, 1, rowJ xs) := by simp [toB, upd]
    have hr : rowsAt (toB [(0, false, 1, rowJ xs)]) 0 [] = some (false, 1, rowJ xs) := by rw [rowsAt_box hb]; rfl
    have F := R.flat 0 [] false 1 _ hr
    obtain ⟨hsp, _, hfr, hfit2⟩ := F.there A n hM
    have hcell : ∀ k, k < xs.length → cx.w0.cell? ⟨A.block, A.off + k, none⟩ = some (.int .i64 (xs.getD k 0)) := by
      intro k hk
      obtain ⟨u, g1, _, g3⟩ := F.cell A n hM k 0 (.lit (.int .i64 xs[k])) (by unfold cellAt; rw [List.getElem?_map, List.getElem?_eq_getElem hk]; rfl)
      have g3 : u = .int .i64 xs[k] := g3
      rw [Nat.mul_one, Nat.add_zero] at g1
      rw [g1, g3, List.getD_eq_getElem?_getD, List.getElem?_eq_getElem hk]; rfl
    rw [hvals]
    refine (Try.slices_Delete_int_cells A.block A.off xs.length cap i j xs cx.w0 (Nat.le_refl _) hle.1 hle.2 (by omega) hj hcell (fun k hk => hfr _ (by simp at hfit2; omega))).mono fun e w' he => ?_
    obtain ⟨rfl, q, rfl⟩ := he
    rw [List.take_length]
    refine ⟨_, M, rfl, ?_, .sl ⟨by omega, hle.2⟩ (fun _ => ⟨A, n, hM, by simp, by omega⟩)⟩
    have R2 := Rel.setInts (cx := { cx with N := 0 }) hM (xs.take i ++ xs.drop j ++ List.replicate (j - i) 0) xs 0 _ _ (Rel.drewN R q) hb (by simp; omega)
    simp only [List.take_zero, List.nil_append, Nat.add_zero] at R2
    have e3 : upd (toB [(0, false, 1, rowJ xs)]) 0 (some (false, 1, rowJ (xs.take i ++ xs.drop j ++ List.replicate (j - i) 0))) = toB [(0, false, 1, rowJ (xs.take i ++ xs.drop j ++ List.replicate (j - i) 0))] := by
      funext b'
      simp only [toB, upd]
      split <;> rfl
    simp only [e3] at R2
    exact R2
end Go.Proofs.Ytpmcmooaokkojaa.M

/- 'clear' of a row of plain cells. -/
import Derived.Test.YtniibpihbopehaaS4
namespace Go.Proofs.Ytniibpihbopehaa.M
open Go Go.RowKit
set_option linter.unusedVariables false
set_option linter.unusedSimpArgs false
variable {cx : Cx} {M M' : Mp} {st : St} {a : Act} {w w' : World} {G : Pg} {p : Nat → Path → Bool}
def clrRow (xs : Row) (off len : Nat) (z : List V) : Row := xs.take off ++ List.replicate len z ++ xs.drop (off + len)
theorem clrRow_get (xs : Row) (off len : Nat) (z : List V) (h : off + len ≤ xs.length) (i : Nat) : (clrRow xs off len z)[i]? = if off ≤ i ∧ i < off + len then some z else xs[i]? := by
  unfold clrRow
  by_cases h1 : i < off
  · rw [if_neg (by omega), List.append_assoc, List.getElem?_append_left (by simp; omega), List.getElem?_take, if_pos h1]
  · by_cases h2 : i < off + len
    · rw [if_pos ⟨by omega, h2⟩, List.getElem?_append_left (by simp; omega), List.getElem?_append_right (by simp; omega), List.getElem?_replicate, if_pos (by simp; omega)]
    · rw [if_neg (by omega), List.getElem?_append_right (by simp; omega), List.getElem?_drop]
      congr 1
      simp; omega
theorem clrRow_length (xs : Row) (off len : Nat) (z : List V) (h : off + len ≤ xs.length) : (clrRow xs off len z).length = xs.length := by unfold clrRow; simp; omega
theorem sub_lit {sz s : Nat} {xs : Row} (hl : litRow sz xs) {q : Path} (hq : q ≠ []) : ∀ x, sub s xs q ≠ some x := by
  intro x0 h
  cases q with
  | nil => exact hq rfl
  | cons p r =>
    obtain ⟨i, k⟩ := p
    simp only [sub] at h
    cases hc : cellAt xs i k with
    | none => rw [hc] at h; cases h
    | some v =>
      rw [hc] at h
      unfold cellAt at hc
      cases hx : xs[i]? with
      | none => rw [hx] at hc; cases hc
      | some x =>
        rw [hx] at hc
        obtain ⟨y, rfl, _⟩ := (hl x (List.mem_of_getElem? hx)).2 v (List.mem_of_getElem? hc)
        cases h
def clrw (tt : Nat → Option Ty) (st : St) (t : Nat) (x : V) (K : St → Prop) : Prop :=
  match tt t with
  | none => False
  | some y => match y.sl with
    | none => False
    | some e => match tt e with
      | none => False
      | some y' => match x with
        | .sl b [] sz off len => chk (decide (sz = y'.size)) (match st.B b with
          | some (false, s2, xs) => chk (decide (s2 = sz)) (off + len ≤ xs.length ∧ litRow sz xs ∧ litRow sz [y'.zero] ∧ K { T := st.T, B := upd st.B b (some (false, sz, clrRow xs off len y'.zero)) })
          | _ => False)
        | _ => False
theorem clrw_sound (R : Rel cx M st a w) {t : Nat} {x : V} {u : Value} {ty : Nat} {K : St → Prop} (h : clrw G.tt st t x K) (hx : VR M cx.w0 cx.Ro x u) :
    ∃ w1 M' st', (Builtin.clear_ #[t] ty #[u]).run G.P w = .ok (.tuple #[]) w1 ∧ K st' ∧ Rel cx M' st' a w1 := by
  unfold clrw at h
  simp only [chk_iff, decide_eq_true_eq] at h
  cases hy : G.tt t with
  | none => rw [hy] at h; exact h.elim
  | some y =>
    rw [hy] at h
    simp only at h
    cases hsl : y.sl with
    | none => rw [hsl] at h; exact h.elim
    | some e =>
      rw [hsl] at h
      simp only at h
      cases hy' : G.tt e with
      | none => rw [hy'] at h; exact h.elim
      | some y' =>
        rw [hy'] at h
        simp only at h
        have hu := (G.ok t y hy).sl e hsl
        obtain ⟨i0, z, hi, hs, hby, hz, hzs, hzl, hzr, _⟩ := (G.ok e y' hy').info
        have pos := (G.ok e y' hy').pos
        split at h
        · rename_i b sz off len
          obtain ⟨rfl, h⟩ := h
          split at h
          · rename_i s2 xs hB
            obtain ⟨rfl, hlen, hl1, hl2, hK⟩ := h
            have hr : rowsAt st.B b [] = some (false, y'.size, xs) := by rw [rowsAt_box hB]; rfl
            have F := R.flat _ _ _ _ _ hr
            have hzl2 : ∀ k v, y'.zero[k]? = some v → ∃ c : Value, v = V.lit c ∧ c.oneCell' = true := fun k v hv => (hl2 y'.zero (by simp)).2 v (List.mem_of_getElem? hv)
            have hl3 : litRow y'.size (clrRow xs off len y'.zero) := by
              intro r hr
              obtain ⟨i, hi⟩ := List.getElem?_of_mem hr
              rw [clrRow_get _ _ _ _ hlen] at hi
              split at hi
              · cases hi; exact hl2 _ (by simp)
              · exact hl1 r (List.mem_of_getElem? hi)
            have rows' : ∀ b' q' t' s' ys', rowsAt (upd st.B b (some (false, y'.size, clrRow xs off len y'.zero))) b' q' = some (t', s', ys') → (b' = b ∧ q' = [] ∧ t' = false ∧ s' = y'.size ∧ ys' = clrRow xs off len y'.zero) ∨ (b' ≠ b ∧ rowsAt st.B b' q' = some (t', s', ys')) := by
              intro b' q' t' s' ys' h
              by_cases hb : b' = b
              · subst hb
                rw [rowsAt_box (upd_same _ _ _)] at h
                obtain ⟨⟨s3, zs⟩, h1, h2⟩ := Option.map_eq_some_iff.1 h
                simp only [Bool.false_and, Prod.mk.injEq] at h2
                obtain ⟨rfl, rfl, rfl⟩ := h2
                by_cases hq : q' = []
                · subst hq
                  simp only [sub, Option.some.injEq, Prod.mk.injEq] at h1
                  obtain ⟨rfl, rfl⟩ := h1
                  exact .inl ⟨rfl, rfl, rfl, rfl, rfl⟩
                · exact absurd h1 (sub_lit hl3 hq _)
              · exact .inr ⟨hb, by rw [rowsAt_upd _ _ hb] at h; exact h⟩
            cases hx with
            | @sl _ _ _ _ _ cap ad hle hfit =>
              by_cases h0 : len = 0
              · subst h0
                refine ⟨w, M, _, ?_, hK, ?_⟩
                · cases ad <;> simp [Builtin.clear_, run_underlying hu]
                · have e : clrRow xs off 0 y'.zero = xs := by unfold clrRow; simp
                  have e2 : upd st.B b (some (false, y'.size, xs)) = st.B := by
                    funext b'
                    simp only [upd]
                    split
                    · rename_i hb; subst hb; exact hB.symm
                    · rfl
                  rw [e, e2]; exact R
              · obtain ⟨A, n, hM, rfl, hf⟩ := hfit (by omega)
                obtain ⟨hsp, ⟨c0, e0, f0, hb1, hb2⟩, hfr, hfit2⟩ := F.there A n hM
                have hex : ∀ j, j < len * y'.size → ∃ u, w.cell? ⟨A.block, A.off + off * y'.size + 0 + j, none⟩ = some u := by
                  intro j hj
                  have hi' : j / y'.size < len := Nat.div_lt_of_lt_mul (by rw [Nat.mul_comm]; exact hj)
                  have hk' : j % y'.size < y'.size := Nat.mod_lt _ pos
                  have hlt : off + j / y'.size < xs.length := by omega
                  have hrow := List.getElem?_eq_getElem hlt
                  have hlen' := F.lens _ _ hrow
                  have hc : cellAt xs (off + j / y'.size) (j % y'.size) = some (xs[off + j / y'.size][j % y'.size]'(by omega)) := by
                    rw [cellAt_of hrow]; exact List.getElem?_eq_getElem _
                  obtain ⟨u, g1, _⟩ := F.cell A n hM _ _ _ hc
                  refine ⟨u, ?_⟩
                  rw [← g1]
                  congr 2
                  have := Nat.div_add_mod j y'.size
                  rw [Nat.add_mul, Nat.mul_comm (j / y'.size)]; omega
                have hin : ∀ j, j < len * y'.size → A.off + off * y'.size + 0 + j < n := by
                  intro j hj
                  have h1 : (off + len) * y'.size ≤ xs.length * y'.size := Nat.mul_le_mul_right _ hlen
                  rw [Nat.add_mul] at h1
                  omega
                obtain ⟨vals, hvals⟩ : ∃ vs : List Value, vs = (Builtin.zeroCells z.cells len).toList := ⟨_, rfl⟩
                have hz0 : z.cells.size = y'.size := by rw [hzs, hzl]
                have hvl : vals.length = len * y'.size := by rw [hvals]; simp [Builtin.zeroCells, hz0]
                have hvg : ∀ j, j < len * y'.size → ∃ (v : V) (c : Value), y'.zero[j % y'.size]? = some v ∧ v = V.lit c ∧ vals[j]? = some c ∧ c.oneCell' = true := by
                  intro j hj
                  have hk' : j % y'.size < y'.size := Nat.mod_lt _ pos
                  have hv : y'.zero[j % y'.size]? = some (y'.zero[j % y'.size]'(by omega)) := List.getElem?_eq_getElem _
                  obtain ⟨c, hc, h1⟩ := hzl2 _ _ hv
                  have hzc : z.cells[j % y'.size]? = some (z.cells[j % y'.size]'(by omega)) := Array.getElem?_eq_getElem _
                  have hzr' := hzr _ _ _ hv hzc
                  refine ⟨_, c, hv, hc, ?_, h1⟩
                  have hec : z.cells[j % y'.size]'(by omega) = c := by
                    rw [hc] at hzr'
                    exact hzr'.1
                  rw [hvals]
                  simp only [Builtin.zeroCells]
                  rw [← hec]
                  have hbang := getElem!_pos z.cells (j % y'.size) (by omega)
                  simp [hz0, hj, hbang]
                obtain ⟨w1, run, k1, k2, k4, k5, k6, k7, k8, k9, k10⟩ := run_storeCells_block G.P A.block (A.off + off * y'.size) vals 0 w (fun j hj => hex j (by omega)) (fun j hj => hfr _ (hin j (by omega))) (fun v hv => by
                  obtain ⟨j, hj⟩ := List.getElem?_of_mem hv
                  have hlt := (List.getElem?_eq_some_iff.1 hj).1
                  obtain ⟨_, c, _, _, h1, h2⟩ := hvg j (by omega)
                  rw [hj] at h1; cases h1; exact h2)
                have hcell : ∀ i k v, cellAt (clrRow xs off len y'.zero) i k = some v → ∃ u, w1.cell? ⟨A.block, A.off + i * y'.size + k, none⟩ = some u ∧ u.oneCell' = true ∧ CR M cx.w0 cx.Ro false b [] i k v u := by
                  intro i k v hv
                  unfold cellAt at hv
                  rw [clrRow_get _ _ _ _ hlen] at hv
                  split at hv
                  · rename_i hio
                    simp only [Option.bind_some] at hv
                    have hk : k < y'.size := by rw [← hzl]; exact (List.getElem?_eq_some_iff.1 hv).1
                    have hj : (i - off) * y'.size + k < len * y'.size := by
                      have : (i - off + 1) * y'.size ≤ len * y'.size := Nat.mul_le_mul_right _ (by omega)
                      rw [Nat.add_mul] at this; omega
                    obtain ⟨v', c, g1, g2, g3, g4⟩ := hvg _ hj
                    have hm : ((i - off) * y'.size + k) % y'.size = k := by rw [Nat.mul_comm, Nat.mul_add_mod, Nat.mod_eq_of_lt hk]
                    rw [hm, hv] at g1
                    cases g1
                    subst g2
                    refine ⟨c, ?_, g4, rfl⟩
                    have := k1 _ _ g3
                    rw [← this]
                    congr 2
                    have : off * y'.size + (i - off) * y'.size = i * y'.size := by rw [← Nat.add_mul]; congr 1; omega
                    omega
                  · rename_i hio
                    have hv' : cellAt xs i k = some v := hv
                    obtain ⟨u, g1, g2, g3⟩ := F.cell A n hM i k v hv'
                    have hk := F.k_lt hv'
                    refine ⟨u, ?_, g2, g3⟩
                    rw [← g1]
                    refine k2 _ ?_
                    rw [hvl]
                    by_cases hlo : i < off
                    · left
                      have : (i + 1) * y'.size ≤ off * y'.size := Nat.mul_le_mul_right _ (by omega)
                      rw [Nat.add_mul] at this; omega
                    · right
                      have : (off + len) * y'.size ≤ i * y'.size := Nat.mul_le_mul_right _ (by omega)
                      rw [Nat.add_mul] at this; omega
                refine ⟨w1, M, _, ?_, hK, ?_⟩
                · have hzv : (zeroValue e).run G.P w = .ok z w := by simp [zeroValue, typeInfo, hi, hz]
                  have hn0 : ∃ m, len = m + 1 := ⟨len - 1, by omega⟩
                  obtain ⟨m, rfl⟩ := hn0
                  simp only [Builtin.clear_, List.getElem?_toArray, List.getElem?_cons_zero, Sem.run_bind, run_underlying hu, Result.andThen_ok, hzv, Sem.run_pure]
                  rw [hvals] at run
                  rw [run]
                  rfl
                · have hshape : ∀ k, w1.shape? k = w.shape? k := by
                    intro k
                    by_cases hk : k = A.block
                    · subst hk
                      obtain ⟨c', g1, g2⟩ := k5 _ _ _ hb1
                      unfold World.shape?
                      rw [g1, hb1]
                      simp [g2]
                    · unfold World.shape?; rw [k4 k hk]
                  have hk0 : Kp (fun k o => k = A.block ∧ o < n) w w1 := by
                    refine ⟨k8, k9, k10, by rw [k7]; exact Nat.le_refl _, fun k _ => hshape k, fun k o hk hn => ?_, fun k hk hn => ?_⟩
                    · by_cases hkA : k = A.block
                      · subst hkA
                        refine k2 o ?_
                        rw [hvl]
                        right
                        have hno : n ≤ o := by
                          rcases Nat.lt_or_ge o n with h | h
                          · exact absurd ⟨rfl, h⟩ hn
                          · exact h
                        have h1 : (off + len) * y'.size ≤ xs.length * y'.size := Nat.mul_le_mul_right _ hlen
                        rw [Nat.add_mul] at h1
                        omega
                      · unfold World.cell?
                        simp only [k4 k hkA]
                    · by_cases hkA : k = A.block
                      · have := hin 0 (Nat.mul_pos (by omega) pos)
                        exact absurd ⟨hkA, by omega⟩ (hn 0)
                      · exact k4 k hkA
                  have haw := R.away _ _ _ _ _ hr A n hM
                  have hother : ∀ b' q' t' s' ys' A' n', b' ≠ b → rowsAt st.B b' q' = some (t', s', ys') → M b' q' = some (A', n') → A'.block ≠ A.block := by
                    intro b' q' t' s' ys' A' n' hb h1 h2 e
                    exact hb (R.inj b' q' b [] (by rw [h1]; rfl) (by rw [hr]; rfl) A' n' A n h2 hM e).1
                  have eno : ∀ t xs, killRow noPath t xs = xs := by
                    intro t xs
                    unfold killRow
                    split
                    · rw [show killL noPath = id by funext l; exact killL_no l]; simp
                    · rfl
                  refine ⟨R.defers, R.size, R.regs, fun b' q' t' s' ys' h => ?_, fun b1 q1 b2 q2 g1 g2 A1 n1 A2 n2 hA1 hA2 hbl => ?_, fun b' q' t' s' ys' h A' n' hA' => ?_, R.keep.trans hk0 (fun k o hk hs => ?_), R.root⟩
                  · rcases rows' _ _ _ _ _ h with ⟨rfl, rfl, rfl, rfl, rfl⟩ | ⟨hb, h1⟩
                    · refine ⟨fun i x hx => (hl3 x (List.mem_of_getElem? hx)).1, (fun h => by rw [hM] at h; cases h), fun A' n' hA' => ?_, fun A' n' hA' i k v hv => ?_⟩
                      · rw [hM] at hA'; cases hA'
                        obtain ⟨c', g1, g2⟩ := k5 _ _ _ hb1
                        exact ⟨hsp, ⟨c', e0, f0, g1, by rw [g2, hb2]⟩, fun o ho => by rw [k6]; exact hfr o ho, by rw [clrRow_length _ _ _ _ hlen]; exact hfit2⟩
                      · rw [hM] at hA'; cases hA'
                        exact hcell i k v hv
                    · have := (R.flat _ _ _ _ _ h1).struck (p := noPath) (M' := M) (w' := w1) (fun _ _ _ => rfl) rfl (fun _ _ _ _ _ => rfl) (fun A' n' hA' => k4 _ (hother _ _ _ _ _ _ _ hb h1 hA'))
                      rw [eno] at this; exact this
                  · have back : ∀ b' q', (rowsAt (upd st.B b (some (false, y'.size, clrRow xs off len y'.zero))) b' q').isSome = true → (rowsAt st.B b' q').isSome = true := by
                      intro b' q' h
                      obtain ⟨⟨t', s', ys'⟩, h⟩ := Option.isSome_iff_exists.1 h
                      rcases rows' _ _ _ _ _ h with ⟨rfl, rfl, _⟩ | ⟨_, h1⟩
                      · rw [hr]; rfl
                      · rw [h1]; rfl
                    exact R.inj b1 q1 b2 q2 (back _ _ g1) (back _ _ g2) A1 n1 A2 n2 hA1 hA2 hbl
                  · rcases rows' _ _ _ _ _ h with ⟨rfl, rfl, rfl, rfl, rfl⟩ | ⟨hb, h1⟩
                    · have := R.away _ _ _ _ _ hr A' n' hA'
                      exact ⟨this.1, fun hlt => ⟨(this.2 hlt).1, fun o ho _ => (this.2 hlt).2 o ho (by simp)⟩⟩
                    · exact R.away _ _ _ _ _ h1 A' n' hA'
                  · obtain ⟨rfl, ho⟩ := hs
                    exact (haw.2 hk).2 o ho (by simp)
          · exact h.elim
        · exact h.elim
end Go.Proofs.Ytniibpihbopehaa.M

/- 'append' as the model runs it. -/
import Derived.Test.YtniibpihbopehaaO0
namespace Go.Proofs.Ytniibpihbopehaa.M
open Go Go.RowKit
set_option linter.unusedVariables false
set_option linter.unusedSimpArgs false
variable {cx : Cx} {M M' : Mp} {st : St} {a : Act} {w w' : World} {G : Pg} {p : Nat → Path → Bool}
/-- Cells that are stored into a block, one behind the other. -/
theorem run_storeCells_block (P : Program) (g o : Nat) : ∀ (vs : List Value) (i : Nat) (w : World), (∀ j, j < vs.length → ∃ u, w.cell? ⟨g, o + i + j, none⟩ = some u) → (∀ j, j < vs.length → w.frozen? ⟨g, o + i + j, none⟩ = false) → (∀ v ∈ vs, v.oneCell' = true) →
    ∃ w1, (storeCells ⟨g, o, none⟩ vs i).run P w = .ok () w1 ∧ (∀ j u, vs[j]? = some u → w1.cell? ⟨g, o + i + j, none⟩ = some u) ∧ (∀ k, k < o + i ∨ o + i + vs.length ≤ k → w1.cell? ⟨g, k, none⟩ = w.cell? ⟨g, k, none⟩) ∧ (∀ k, k ≠ g → w1.heap[k]? = w.heap[k]?) ∧
      (∀ c e f, w.heap[g]? = some (.cells c e f) → ∃ c', w1.heap[g]? = some (.cells c' e f) ∧ c'.size = c.size) ∧ (∀ b, w1.frozen? b = w.frozen? b) ∧ w1.heap.size = w.heap.size ∧ w1.os = w.os ∧ w1.tape = w.tape ∧ w1.output = w.output := by
  intro vs
  induction vs with
  | nil => intro i w h1 h2 h3; exact ⟨w, rfl, by simp, fun _ _ => rfl, fun _ _ => rfl, fun c e f h => ⟨c, h, rfl⟩, fun _ => rfl, rfl, rfl, rfl, rfl⟩
  | cons v vs ih =>
    intro i w h1 h2 h3
    obtain ⟨u0, hu0⟩ := h1 0 (by simp)
    have hf0 := h2 0 (by simp)
    simp only [Nat.add_zero] at hu0 hf0
    have hrun : (Go.store ⟨g, o + i, none⟩ v).run P w = .ok () (w.setCell ⟨g, o + i, none⟩ v) := by
      rw [run_store P w _ v .plain (h3 v (by simp)), hu0]
      simp only
      rw [hf0]; rfl
    have hoth : ∀ k, k ≠ o + i → (w.setCell ⟨g, o + i, none⟩ v).cell? ⟨g, k, none⟩ = w.cell? ⟨g, k, none⟩ := by
      intro k hk
      exact World.cell?_setCell_other w _ _ _ (fun e => hk (congrArg Addr.off e).symm)
    obtain ⟨w1, r1, r2, r3, r4, r5, r6, r7, r8, r9, r10⟩ := ih (i + 1) (w.setCell ⟨g, o + i, none⟩ v)
      (fun j hj => by
        obtain ⟨u, hu⟩ := h1 (j + 1) (by simpa using hj)
        exact ⟨u, by rw [hoth _ (by omega), show o + (i + 1) + j = o + i + (j + 1) by omega]; exact hu⟩)
      (fun j hj => by rw [World.frozen?_setCell, show o + (i + 1) + j = o + i + (j + 1) by omega]; exact h2 (j + 1) (by simpa using hj))
      (fun x hx => h3 x (by simp [hx]))
    refine ⟨w1, ?_, ?_, ?_, ?_, ?_, ?_, ?_, r8, r9, r10⟩
    · simp only [storeCells, Sem.run_bind, add_plain, hrun, Result.andThen_ok]
      exact r1
    · intro j u hj
      cases j with
      | zero =>
        simp at hj; subst hj
        rw [r3 _ (.inl (by omega))]
        exact World.cell?_setCell_same w _ _ hu0
      | succ j => have := r2 j u (by simpa using hj); rw [show o + (i + 1) + j = o + i + (j + 1) by omega] at this; exact this
    · intro k hk
      rw [r3 k (by rcases hk with h | h; exact .inl (by omega); exact .inr (by simp at h; omega))]
      exact hoth k (by rcases hk with h | h; omega; simp at h; omega)
    · intro k hk
      rw [r4 k hk]
      exact Below.heap_setCell w _ v k hk
    · intro c e f hc
      have : (w.setCell ⟨g, o + i, none⟩ v).heap[g]? = some (.cells (c.setIfInBounds (o + i) v) e f) := by simp [World.setCell, Array.getElem?_modify, hc]
      obtain ⟨c', h1, h2⟩ := r5 _ _ _ this
      exact ⟨c', h1, by rw [h2]; simp⟩
    · intro b; rw [r6 b, World.frozen?_setCell]
    · rw [r7]; simp
theorem run_append_in (P : Program) (w : World) (t t2 ty e : TypeId) (d2 : TypeDesc) (i : TypeInfo) (ht : P.underlying t = some (.slice e)) (ht2 : P.underlying t2 = some d2) (hd2 : ∀ k, d2 ≠ .int k) (hi : P.info? e = some i)
    (g o sLen sCap m : Nat) (x : Value) (news : List Value) (hlen : ∀ w, (Builtin.lenOf x).run P w = .ok m w) (hf : (Builtin.firstCells i.size m x).run P w = .ok news.toArray w) (hroom : sLen + m ≤ sCap)
    {w1 : World} (hst : (storeCells ⟨g, o + sLen * i.size, none⟩ news).run P w = .ok () w1) :
    (Builtin.append_ #[t, t2] ty #[.slice (some ⟨g, o, none⟩) sLen sCap, x]).run P w = .ok (.slice (some ⟨g, o, none⟩) (sLen + m) sCap) w1 := by
  have hz : (match d2 with | .int _ => true | _ => false) = false := by cases d2 <;> first | rfl | exact absurd rfl (hd2 _)
  simp [Builtin.append_, run_underlying ht, run_underlying ht2, hz, sizeOf, typeInfo, hi, hlen, hroom, hf, Addr.add_lit, hst]
theorem run_append_new (P : Program) (w : World) (t t2 ty e : TypeId) (d2 : TypeDesc) (i : TypeInfo) (z : Value) (ht : P.underlying t = some (.slice e)) (ht2 : P.underlying t2 = some d2) (hd2 : ∀ k, d2 ≠ .int k) (hi : P.info? e = some i) (hz0 : i.zero = some z)
    (ad : Option Addr) (sLen sCap m : Nat) (x : Value) (olds news : List Value) (hlen : ∀ w, (Builtin.lenOf x).run P w = .ok m w) (hf : (Builtin.firstCells i.size m x).run P w.drew = .ok news.toArray w.drew) (hfo : (Builtin.firstCells i.size sLen (.slice ad sLen sCap)).run P w.drew = .ok olds.toArray w.drew) (hroom : sCap < sLen + m)
    (h63 : ((sLen + m : Nat) : Int) ≤ 9223372036854775807) (hfit : Builtin.nextslicecap (sLen + m) sCap * i.bytes ≤ 281474976710656) :
    (Builtin.append_ #[t, t2] ty #[.slice ad sLen sCap, x]).run P w = .ok (.slice (some ⟨w.heap.size, 0, none⟩) (sLen + m) (grownCap w (sLen + m) sCap e))
        (w.drew.alloc (.cells (olds.toArray ++ news.toArray ++ Builtin.zeroCells z.cells (grownCap w (sLen + m) sCap e - (sLen + m))) e)) := by
  have hz : (match d2 with | .int _ => true | _ => false) = false := by cases d2 <;> first | rfl | exact absurd rfl (hd2 _)
  have hn : ¬ (sLen + m ≤ sCap) := by omega
  have h63' : ¬ (9223372036854775807 < ((sLen : Int) + (m : Int))) := by omega
  have h48' : ¬ (281474976710656 < Builtin.nextslicecap (sLen + m) sCap * i.bytes) := by omega
  simp [Builtin.append_, run_underlying ht, run_underlying ht2, hz, sizeOf, typeInfo, zeroValue, hi, hz0, hlen, hn, h63', h48', Question.forced, hf, hfo, newRow, grownCap]
  congr 2
  apply Array.ext'
  simp [List.append_assoc]
/-- An empty box of one's own, for a slice without room: nothing is done. -/
theorem Rel.nilBox (R : Rel cx M st a w) (d sz : Nat) (eo : Option Nat) (h5 : 500 ≤ d) (h5e : ∀ e, eo = some e → 500 ≤ e) : ∃ M', Rel cx M' { T := fun t => kill (oneOf d eo) (st.T t), B := upd (killB (oneOf d eo) (dropB st.B eo)) d (some (false, sz, [])) } a w ∧ M' d [] = none ∧ ∀ b q, oneOf d eo b q = false → M' b q = M b q := by
  obtain ⟨M', hM'⟩ : ∃ M' : Mp, M' = fun b q => if b = d then none else M b q := ⟨_, rfl⟩
  have m1 : ∀ b q, b ≠ d → M' b q = M b q := by intro b q h; rw [hM']; simp [h]
  have m2 : ∀ q, M' d q = none := by intro q; rw [hM']; simp
  have hM : ∀ b q, oneOf d eo b q = false → M' b q = M b q := by intro b q h; refine m1 b q (fun e => ?_); subst e; simp [oneOf] at h
  have live : ∀ b q t s ys, rowsAt (upd (killB (oneOf d eo) (dropB st.B eo)) d (some (false, sz, []))) b q = some (t, s, ys) → (b = d ∧ ys = []) ∨ (b ≠ d ∧ oneOf d eo b q = false ∧ ∃ zs, rowsAt st.B b q = some (t, s, zs) ∧ ys = killRow (oneOf d eo) t zs) := by
    intro b q t s ys h
    by_cases hb : b = d
    · subst hb
      rw [rowsAt_box (upd_same _ _ _)] at h
      cases q with
      | nil => simp [sub] at h; exact .inl ⟨rfl, h.2.2⟩
      | cons y r => obtain ⟨i, k⟩ := y; simp [sub, cellAt] at h
    · rw [rowsAt_upd _ _ hb, rowsAt_killB] at h
      obtain ⟨⟨t', s', zs⟩, h1, h2⟩ := Option.map_eq_some_iff.1 h
      simp only [Prod.mk.injEq] at h2
      obtain ⟨rfl, rfl, rfl⟩ := h2
      refine .inr ⟨hb, ?_⟩
      cases eo with
      | none => simp only [dropB] at h1; exact ⟨by simp [oneOf, hb], zs, h1, rfl⟩
      | some e =>
        simp only [dropB] at h1
        have hbe : b ≠ e := by intro h; subst h; simp [rowsAt, upd_same] at h1
        rw [rowsAt_upd _ _ hbe] at h1
        exact ⟨by simp [oneOf, hb, Ne.symm hbe], zs, h1, rfl⟩
  refine ⟨M', R.change (oneOf d eo) _ hM ?_ ?_ ?_ R.keep (fun b hb => oneOf_low h5 h5e hb), m2 _, hM⟩
  · intro b q t s ys h
    rcases live b q t s ys h with ⟨rfl, rfl⟩ | ⟨hb, ho, zs, hz, rfl⟩
    · exact ⟨(fun i x hx => by simp at hx), fun _ => rfl, (fun A n hA => by rw [m2] at hA; cases hA), (fun A n hA => by rw [m2] at hA; cases hA)⟩
    · exact (R.flat b q t s zs hz).struck hM ho (fun _ _ _ _ _ => ho) (fun A n hA => rfl)
  · intro b q b' q' h h' A n A' n' hA hA' hbl
    obtain ⟨⟨t, s, ys⟩, h⟩ := Option.isSome_iff_exists.1 h
    obtain ⟨⟨t', s', ys'⟩, h'⟩ := Option.isSome_iff_exists.1 h'
    rcases live b q t s ys h with ⟨rfl, _⟩ | ⟨hb, ho, zs, hz, _⟩
    · rw [m2] at hA; cases hA
    · rcases live b' q' t' s' ys' h' with ⟨rfl, _⟩ | ⟨hb', ho', zs', hz', _⟩
      · rw [m2] at hA'; cases hA'
      · rw [m1 _ _ hb] at hA
        rw [m1 _ _ hb'] at hA'
        exact R.inj b q b' q' (by rw [hz]; rfl) (by rw [hz']; rfl) A n A' n' hA hA' hbl
  · intro b q t s ys h A n hA
    rcases live b q t s ys h with ⟨rfl, _⟩ | ⟨hb, ho, zs, hz, rfl⟩
    · rw [m2] at hA; cases hA
    · rw [m1 _ _ hb] at hA
      rw [killRow_length]
      exact R.away b q t s zs hz A n hA
theorem append_sound (R : Rel cx M st a w) {t e : Nat} {y y' : Ty} (hy : G.tt t = some y) (he : y.sl = some e) (hy' : G.tt e = some y') (t2 ty : Nat) {d2 : TypeDesc} (ht2 : G.P.underlying t2 = some d2) (hd2 : ∀ k, d2 ≠ .int k)
    (d : Nat) (eo : Option Nat) (h5 : 500 ≤ d) (h5e : ∀ e, eo = some e → 500 ≤ e) {xs E : Row} {off len : Nat} {us : Value} (hd : st.B d = some (false, y'.size, xs)) (hlen : off + len ≤ xs.length) (hv : VR M cx.w0 cx.Ro (.sl d [] y'.size off len) us)
    (x : Value) (news : List Value) (hl : ∀ w, (Builtin.lenOf x).run G.P w = .ok E.length w) (hf : (Builtin.firstCells y'.size E.length x).run G.P w = .ok news.toArray w) (hfd : (Builtin.firstCells y'.size E.length x).run G.P w.drew = .ok news.toArray w.drew) (hn : news.length = E.length * y'.size) (hone : ∀ v ∈ news, v.oneCell' = true)
    (hE : ∀ (i : Nat) (x : List V), E[i]? = some x → x.length = y'.size) (e0 : Nat) (he0 : eo = none ∨ eo = some e0) (hnew : ∀ i k v, cellAt E i k = some v → ∃ u, news[i * y'.size + k]? = some u ∧ u.oneCell' = true ∧ CR M cx.w0 cx.Ro false e0 [] i k v u)
    (hown : ∀ i k s ys, cellAt E i k = some (.own s ys) → eo = some e0 ∧ e0 ≠ d ∧ ∃ E0, st.B e0 = some (false, y'.size, E0) ∧ cellAt E0 i k = some (.own s ys))
    (hb : (len + E.length) * y'.bytes ≤ 140737488355328) (hb2 : len + E.length ≤ 140737488355328) :
    ∃ r w1 M', (Builtin.append_ #[t, t2] ty #[us, x]).run G.P w = .ok r w1 ∧ Rel cx M' { T := fun t => kill (oneOf d eo) (st.T t), B := upd (killB (oneOf d eo) (dropB st.B eo)) d (some (false, y'.size, (xs.drop off).take len ++ E)) } a w1 ∧ VR M' cx.w0 cx.Ro (.sl d [] y'.size 0 (len + E.length)) r ∧ (∀ b q, oneOf d eo b q = false → M' b q = M b q) ∧ Kp (fun k o => ∃ A n, M d [] = some (A, n) ∧ A.block = k ∧ A.off + (off + len) * y'.size ≤ o) w w1 := by
  have hu := (G.ok t y hy).sl e he
  obtain ⟨i, z, hi, hs, hby, hz, hzs, hzl, hzr, _⟩ := (G.ok e y' hy').info
  have pos := (G.ok e y' hy').pos
  have d0 : rowsAt st.B d [] = some (false, y'.size, xs) := by rw [rowsAt_box hd]; rfl
  have F := R.flat _ _ _ _ _ d0
  have hzz : (match d2 with | .int _ => true | _ => false) = false := by cases d2 <;> first | rfl | exact absurd rfl (hd2 _)
  cases hv with
  | @sl _ _ _ _ _ cap ad hle hfit =>
    have holds : ∃ olds : List Value, olds.length = len * y'.size ∧ (Builtin.firstCells y'.size len (.slice ad len cap)).run G.P w.drew = .ok olds.toArray w.drew ∧ (0 < cap → ∀ A n, M d [] = some (A, n) → ∀ j u, olds[j]? = some u → w.cell? ⟨A.block, A.off + off * y'.size + j, none⟩ = some u) ∧
        ∀ i k v, i < len → cellAt xs (off + i) k = some v → ∃ u, olds[i * y'.size + k]? = some u ∧ u.oneCell' = true ∧ CR M cx.w0 cx.Ro false d [] (off + i) k v u := by
      by_cases hcap : cap = 0
      · have hl0 : len = 0 := by omega
        subst hl0
        exact ⟨[], by simp, by cases ad <;> simp [Builtin.firstCells, loadCells, loadCellsFrom], fun h => by omega, fun i k v h => by omega⟩
      · obtain ⟨A, n, hM, rfl, hfit'⟩ := hfit (by omega)
        obtain ⟨hsp, ⟨c, ce, cf, hheap, hsize⟩, hfree, hfits⟩ := F.there A n hM
        have hold : ∃ olds : List Value, olds.length = len * y'.size ∧ ∀ j u, olds[j]? = some u → w.cell? ⟨A.block, A.off + off * y'.size + j, none⟩ = some u := by
          have hcellx : ∀ j, j < len * y'.size → ∃ u, w.cell? ⟨A.block, A.off + off * y'.size + j, none⟩ = some u := by
            intro j hj
            have hlt : A.off + off * y'.size + j < n := by
              have : (off + len) * y'.size ≤ (off + cap) * y'.size := Nat.mul_le_mul_right _ (by omega)
              have e1 : (off + len) * y'.size = off * y'.size + len * y'.size := Nat.add_mul ..
              omega
            have hx : w.cell? ⟨A.block, A.off + off * y'.size + j, none⟩ = c[A.off + off * y'.size + j]? := by simp [World.cell?, hheap]
            exact ⟨_, by rw [hx]; exact Array.getElem?_eq_getElem (by omega)⟩
          exact choose_list _ _ hcellx
        obtain ⟨olds, hol, hoc⟩ := hold
        refine ⟨olds, hol, run_firstCells_some w.drew y'.size len ⟨A.block, A.off + off * y'.size, none⟩ len cap olds hol (fun j v hj => by rw [add_plain]; exact hoc j v hj), fun _ A' n' hM' => ?_, ?_⟩
        · rw [hM] at hM'; cases hM'; exact hoc
        · intro i k v hi' hc'
          obtain ⟨u, c1, c2, c3⟩ := F.cell A n hM _ _ _ hc'
          have hk := F.k_lt hc'
          have hlt : i * y'.size + k < olds.length := by
            rw [hol]
            have : (i + 1) * y'.size ≤ len * y'.size := Nat.mul_le_mul_right _ hi'
            rw [Nat.add_mul] at this
            omega
          refine ⟨u, ?_, c2, c3⟩
          have c4 := hoc _ _ (List.getElem?_eq_getElem hlt)
          rw [show A.off + off * y'.size + (i * y'.size + k) = A.off + (off + i) * y'.size + k by rw [Nat.add_mul]; omega, c1] at c4
          rw [List.getElem?_eq_getElem hlt]; exact c4.symm
    obtain ⟨olds, hol, hfo, hoc0, hold2⟩ := holds
    by_cases hroom : len + E.length ≤ cap
    · by_cases hcap : cap = 0
      · have hl0 : len = 0 := by omega
        have hEn : E = [] := List.eq_nil_of_length_eq_zero (by omega)
        subst hl0
        subst hEn
        subst hcap
        have hnn : news = [] := List.eq_nil_of_length_eq_zero (by simpa using hn)
        subst hnn
        obtain ⟨M', R', h1, h2⟩ := R.nilBox d y'.size eo h5 h5e
        simp only [List.length_nil] at hl hf
        refine ⟨.slice ad 0 0, w, M', ?_, by simpa using R', .sl ⟨Nat.le_refl _, by decide⟩ (fun h => by omega), h2, Kp.refl _ _⟩
        cases ad with
        | none => simp [Builtin.append_, run_underlying hu, run_underlying ht2, hzz, sizeOf, typeInfo, hi, hl, hs, hf]
        | some A0 => simp [Builtin.append_, run_underlying hu, run_underlying ht2, hzz, sizeOf, typeInfo, hi, hl, hs, hf, storeCells]
      · obtain ⟨A, n, hM, rfl, hfit'⟩ := hfit (by omega)
        have hoc := hoc0 (by omega) A n hM
        obtain ⟨hsp, ⟨c, ce, cf, hheap, hsize⟩, hfree, hfits⟩ := F.there A n hM
        have e1 : (len + E.length) * y'.size ≤ cap * y'.size := Nat.mul_le_mul_right _ hroom
        have e2 : (off + cap) * y'.size = off * y'.size + cap * y'.size := Nat.add_mul ..
        have e3 : (len + E.length) * y'.size = len * y'.size + E.length * y'.size := Nat.add_mul ..
        have hrange : ∀ j, j < news.length → A.off + off * y'.size + len * y'.size + j < n := by
          intro j hj
          omega
        obtain ⟨w1, r1, r2, r3, r4, r5, r6, r7, r8, r9, r10⟩ := run_storeCells_block G.P A.block (A.off + off * y'.size + len * y'.size) news 0 w
          (fun j hj => by
            have hx : w.cell? ⟨A.block, A.off + off * y'.size + len * y'.size + 0 + j, none⟩ = c[A.off + off * y'.size + len * y'.size + 0 + j]? := by simp [World.cell?, hheap]
            exact ⟨_, by rw [hx]; exact Array.getElem?_eq_getElem (by have := hrange j hj; omega)⟩)
          (fun j hj => hfree _ (by have := hrange j hj; omega)) hone
        have run := run_append_in G.P w t t2 ty e d2 i hu ht2 hd2 hi A.block (A.off + off * y'.size) len cap E.length x news hl (by rw [hs]; exact hf) hroom (w1 := w1) (by rw [hs]; exact r1)
        obtain ⟨c', hc1, hc2⟩ := r5 _ _ _ hheap
        have kp : Kp cx.S cx.w0 w1 := by
          refine ⟨r8.trans R.keep.os, r9.trans R.keep.tape, r10.trans R.keep.output, by rw [r7]; exact R.keep.size, fun k hk => ?_, fun k o hk hn' => ?_, fun k hk hn' => ?_⟩
          · by_cases e1 : k = A.block
            · subst e1
              rw [← R.keep.shape _ hk]
              simp [World.shape?, hc1, hheap, hc2]
            · rw [← R.keep.shape _ hk]; unfold World.shape?; rw [r4 k e1]
          · by_cases e1 : k = A.block
            · subst e1
              rw [← R.keep.cell _ o hk hn']
              by_cases ho : o < n
              · exact absurd (((R.away _ _ _ _ _ d0 _ _ hM).2 hk).2 o ho (by simp)) hn'
              · have x1 : w1.cell? ⟨A.block, o, none⟩ = c'[o]? := by simp [World.cell?, hc1]
                have x2 : w.cell? ⟨A.block, o, none⟩ = c[o]? := by simp [World.cell?, hheap]
                rw [x1, x2, Array.getElem?_eq_none (by omega), Array.getElem?_eq_none (by omega)]
            · rw [← R.keep.cell _ o hk hn']; unfold World.cell?; simp only [r4 k e1]
          · by_cases e1 : k = A.block
            · subst e1
              have hn0 : 0 < n := by
                have : 0 < (off + cap) * y'.size := Nat.mul_pos (by omega) pos
                omega
              exact absurd (((R.away _ _ _ _ _ d0 _ _ hM).2 hk).2 0 hn0 (by simp)) (hn' 0)
            · rw [r4 k e1]; exact R.keep.block k hk hn'
        obtain ⟨M', R', h1, h2⟩ := R.appended d eo h5 h5e (off := off) (len := len) (E := E) (w1 := w1) hd hlen pos olds news hol hn hold2 hE e0 he0 hnew hown (A1 := ⟨A.block, A.off + off * y'.size, none⟩) (n1 := n)
          ⟨rfl, ⟨c', ce, cf, hc1, by rw [hc2, hsize]⟩, fun o ho => by rw [r6]; exact hfree o ho, fun j u hj => by
            by_cases hj2 : j < olds.length
            · rw [List.getElem?_append_left hj2] at hj
              rw [r3 _ (.inl (by simp only; omega))]
              exact hoc j u hj
            · rw [List.getElem?_append_right (by omega)] at hj
              have := r2 _ u hj
              rw [show A.off + off * y'.size + len * y'.size + 0 + (j - olds.length) = A.off + off * y'.size + j by omega] at this
              exact this, by
            simp only [List.length_append]
            omega, fun k _ hk => r4 k hk⟩ kp (.inr ⟨A, hM, rfl⟩)
        have kp2 : Kp (fun k o => ∃ A n, M d [] = some (A, n) ∧ A.block = k ∧ A.off + (off + len) * y'.size ≤ o) w w1 := by
          refine ⟨r8, r9, r10, by rw [r7]; exact Nat.le_refl _, fun k hk => ?_, fun k o hk hn' => ?_, fun k hk hn' => ?_⟩
          · by_cases e1 : k = A.block
            · subst e1
              simp [World.shape?, hc1, hheap, hc2]
            · unfold World.shape?; rw [r4 k e1]
          · by_cases e1 : k = A.block
            · subst e1
              have hlt : ¬ A.off + (off + len) * y'.size ≤ o := fun h => hn' ⟨A, n, hM, rfl, h⟩
              rw [Nat.add_mul] at hlt
              exact r3 _ (.inl (by omega))
            · unfold World.cell?; simp only [r4 k e1]
          · by_cases e1 : k = A.block
            · subst e1
              exact absurd ⟨A, n, hM, rfl, Nat.le_refl _⟩ (hn' _)
            · exact r4 k e1
        refine ⟨_, w1, M', run, R', .sl ⟨hroom, hle.2⟩ (fun _ => ⟨_, _, h1, by simp, ?_⟩), h2, kp2⟩
        simp only [Nat.zero_add]
        omega
    · have run := run_append_new G.P w t t2 ty e d2 i z hu ht2 hd2 hi hz ad len cap E.length x olds news hl (by rw [hs]; exact hfd) (by rw [hs]; exact hfo) (by omega) (by omega) (growslice_fits (by omega) (by rw [hby]; exact hb))
      have hge := grownCap_ge w (len + E.length) cap e
      have e3 : (len + E.length) * y'.size = len * y'.size + E.length * y'.size := Nat.add_mul ..
      have e4 : (len + E.length) * y'.size + (grownCap w (len + E.length) cap e - (len + E.length)) * y'.size = grownCap w (len + E.length) cap e * y'.size := by rw [← Nat.add_mul]; congr 1; omega
      obtain ⟨M', R', h1, h2⟩ := R.appended d eo h5 h5e (off := off) (len := len) (E := E) (w1 := w.drew.alloc (.cells (olds.toArray ++ news.toArray ++ Builtin.zeroCells z.cells (grownCap w (len + E.length) cap e - (len + E.length))) e)) hd hlen pos olds news hol hn hold2 hE e0 he0 hnew hown (A1 := ⟨w.heap.size, 0, none⟩) (n1 := (grownCap w (len + E.length) cap e) * y'.size)
        ⟨rfl, ⟨_, _, _, heap_alloc_new w.drew _, by simp only [Array.size_append, List.size_toArray, size_zeroCells, hzs, hzl, hn, hol]; omega⟩, fun o _ => World.frozen?_alloc_new w.drew _ e o, fun j u hj => by
          simp only [Nat.zero_add]
          have := World.cell?_alloc_new w.drew (olds.toArray ++ news.toArray ++ Builtin.zeroCells z.cells (grownCap w (len + E.length) cap e - (len + E.length))) e j
          refine this.trans ?_
          have hlt := (List.getElem?_eq_some_iff.1 hj).1
          rw [Array.getElem?_append_left (by simpa using hlt)]
          simpa using hj, by simp only [List.length_append, hn, hol]; omega, fun k hk _ => Below.heap_alloc w.drew _ k hk⟩
        ((show Kp cx.S cx.w0 w.drew from R.drew.keep).alloc _) (.inl rfl)
      refine ⟨_, _, M', run, R', ?_, h2, (show Kp _ w w.drew from ⟨rfl, rfl, rfl, Nat.le_refl _, fun _ _ => rfl, fun _ _ _ _ => rfl, fun _ _ _ => rfl⟩).alloc _⟩
      exact .sl ⟨hge, grownCap_le_maxLen w _ _ e (by simp only [maxLen]; omega)⟩ (fun _ => ⟨_, _, h1, by simp, by simp⟩)
end Go.Proofs.Ytniibpihbopehaa.M

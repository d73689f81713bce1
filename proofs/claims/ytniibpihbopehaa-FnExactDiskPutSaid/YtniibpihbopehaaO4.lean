/- 'append' as one word is right. -/
import Derived.Test.YtniibpihbopehaaO3
namespace Go.Proofs.Ytniibpihbopehaa.M
open Go Go.RowKit
set_option linter.unusedVariables false
set_option linter.unusedSimpArgs false
variable {cx : Cx} {M M' : Mp} {st : St} {a : Act} {w w' : World} {G : Pg} {p : Nat → Path → Bool}
/-- What is put behind: its cells. -/
structure Els (cx : Cx) (M : Mp) (st : St) (w : World) (P : Program) (sz t2 : Nat) (u : Value) (eo : Option Nat) (E : Row) (e0 : Nat) (news : List Value) (d2 : TypeDesc) : Prop where
  ty : P.underlying t2 = some d2
  noInt : ∀ k, d2 ≠ .int k
  len : ∀ w, (Builtin.lenOf u).run P w = .ok E.length w
  first : (Builtin.firstCells sz E.length u).run P w = .ok news.toArray w
  firstD : (Builtin.firstCells sz E.length u).run P w.drew = .ok news.toArray w.drew
  size : news.length = E.length * sz
  one : ∀ v ∈ news, v.oneCell' = true
  lens : ∀ (i : Nat) (x : List V), E[i]? = some x → x.length = sz
  eo_ : eo = none ∨ eo = some e0
  cell : ∀ i k v, cellAt E i k = some v → ∃ u, news[i * sz + k]? = some u ∧ u.oneCell' = true ∧ CR M cx.w0 cx.Ro false e0 [] i k v u
  own : ∀ i k s ys, cellAt E i k = some (.own s ys) → eo = some e0 ∧ ∃ E0, st.B e0 = some (false, sz, E0) ∧ cellAt E0 i k = some (.own s ys)
theorem run_first_slice (P : Program) {sz n : Nat} {ad : Option Addr} {cap : Nat} {news : List Value} (hn : news.length = n * sz) (h : n ≠ 0 → ∃ A, ad = some A ∧ A.spot = none ∧ ∀ j u, news[j]? = some u → w.cell? ⟨A.block, A.off + j, none⟩ = some u) :
    (Builtin.firstCells sz n (.slice ad n cap)).run P w = .ok news.toArray w := by
  by_cases h0 : n = 0
  · subst h0
    have : news = [] := List.eq_nil_of_length_eq_zero (by simpa using hn)
    subst this
    cases ad <;> simp [Builtin.firstCells, loadCells, loadCellsFrom]
  · obtain ⟨A, rfl, hsp, hc⟩ := h h0
    exact run_firstCells_some w sz n A n cap news hn (fun j v hj => by rw [add_of_spot hsp]; exact hc j v hj)
theorem idx_lt {i k n sz : Nat} (hi : i < n) (hk : k < sz) : i * sz + k < n * sz := by
  have : (i + 1) * sz ≤ n * sz := Nat.mul_le_mul_right _ hi
  rw [Nat.add_mul] at this
  omega
theorem els_lit (R : Rel cx M st a w) {y' : Ty} (hpos : 0 < y'.size) {t2 : Nat} {x : V} {u : Value} {K : Option Nat → Row → Prop} (hv : VR M cx.w0 cx.Ro x u) {y2 : Ty} (hy2 : G.tt t2 = some y2) (hsl : y2.sl.isSome = true) (h : rowV st.B (fun s xs => chk (decide (s = y'.size)) (litRow s xs ∧ K none xs)) x) :
    ∃ eo E e0 news d2, K eo E ∧ (∀ e, eo = some e → 500 ≤ e) ∧ Els cx M st w G.P y'.size t2 u eo E e0 news d2 := by
  obtain ⟨e2, he2⟩ := Option.isSome_iff_exists.1 hsl
  have hu2 := (G.ok t2 y2 hy2).sl e2 he2
  obtain ⟨sz, xs, ad, cap, hch, rfl, hle, hl⟩ := rowV_lies R h hv
  simp only [chk_iff, decide_eq_true_eq] at hch
  obtain ⟨rfl, hlit, hK⟩ := hch
  have hat : ∀ i k v, cellAt xs i k = some v → ∃ y, v = .lit y ∧ y.oneCell' = true := by
    intro i k v hc
    unfold cellAt at hc
    cases hx : xs[i]? with
    | none => rw [hx] at hc; cases hc
    | some x => rw [hx] at hc; exact (hlit x (List.mem_of_getElem? hx)).2 v (List.mem_of_getElem? hc)
  have main : ∃ news : List Value, news.length = xs.length * y'.size ∧ (xs.length ≠ 0 → ∃ A, ad = some A ∧ A.spot = none ∧ ∀ j u, news[j]? = some u → w.cell? ⟨A.block, A.off + j, none⟩ = some u) ∧ ∀ i k y, cellAt xs i k = some (.lit y) → news[i * y'.size + k]? = some y := by
    by_cases hne : xs = []
    · subst hne; exact ⟨[], by simp, by simp, fun i k y hc => by simp [cellAt] at hc⟩
    · obtain ⟨A, rfl, hsp, hc⟩ := hl.cell hne
      obtain ⟨news, n1, n2, n3⟩ := hl.news hpos
      exact ⟨news, n1, fun _ => ⟨A, rfl, hsp, fun j u hj => by rw [← add_of_spot hsp]; exact n2 j u hj⟩, n3⟩
  obtain ⟨news, n1, n2, n3⟩ := main
  refine ⟨none, xs, 0, news, _, hK, (fun _ h => by cases h), hu2, (fun k h => by cases h), fun w => by simp [Builtin.lenOf], run_first_slice G.P n1 n2, run_first_slice G.P n1 n2, n1, ?_, hl.lens, .inl rfl, ?_, ?_⟩
  · intro v hv
    obtain ⟨j, hj⟩ := List.getElem?_of_mem hv
    have hlt : j < xs.length * y'.size := by rw [← n1]; exact (List.getElem?_eq_some_iff.1 hj).1
    have hi : j / y'.size < xs.length := Nat.div_lt_of_lt_mul (by rw [Nat.mul_comm]; exact hlt)
    have hk : j % y'.size < y'.size := Nat.mod_lt _ hpos
    have hx := hl.lens _ _ (List.getElem?_eq_getElem hi)
    have hc : cellAt xs (j / y'.size) (j % y'.size) = some ((xs[j / y'.size]'hi)[j % y'.size]'(by omega)) := by rw [cellAt_of (List.getElem?_eq_getElem hi)]; exact List.getElem?_eq_getElem (by omega)
    obtain ⟨y, hy, ho⟩ := hat _ _ _ hc
    rw [hy] at hc
    have := n3 _ _ _ hc
    rw [show j / y'.size * y'.size + j % y'.size = j by rw [Nat.mul_comm]; exact Nat.div_add_mod _ _, hj] at this
    cases this; exact ho
  · intro i k v hc
    obtain ⟨y, rfl, ho⟩ := hat i k v hc
    exact ⟨y, n3 i k y hc, ho, rfl⟩
  · intro i k s ys hc
    obtain ⟨y, hy, _⟩ := hat i k _ hc
    cases hy
theorem appEls_ok (R : Rel cx M st a w) {t e : Nat} {y' : Ty} (hy' : G.tt e = some y') {t2 : Nat} {x : V} {u : Value} {K : Option Nat → Row → Prop} (hv : VR M cx.w0 cx.Ro x u) (h : appEls G.tt st y' t2 x K) :
    ∃ eo E e0 news d2, K eo E ∧ (∀ e, eo = some e → 500 ≤ e) ∧ Els cx M st w G.P y'.size t2 u eo E e0 news d2 := by
  have hpos := (G.ok e y' hy').pos
  unfold appEls at h
  simp only [chk_iff (b := slT _ _), chk_iff (b := strT _ _), chk_iff (b := decide (_ ≤ _)), chk_iff (b := decide (_ = some IntKind.u8)), decide_eq_true_eq] at h
  have gen : ∀ (h1 : slT G.tt t2 = true), ∃ y2, G.tt t2 = some y2 ∧ y2.sl.isSome = true := by
    intro h1
    cases hy2 : G.tt t2 with
    | none => unfold slT at h1; rw [hy2] at h1; cases h1
    | some y2 => unfold slT at h1; rw [hy2] at h1; exact ⟨y2, rfl, h1⟩
  split at h
  · rename_i s
    obtain ⟨h1, h2, hK⟩ := h
    have := hv.lit_
    subst this
    cases hy2 : G.tt t2 with
    | none => unfold strT at h1; rw [hy2] at h1; cases h1
    | some y2 =>
      unfold strT at h1
      rw [hy2] at h1
      have hu2 := (G.ok t2 y2 hy2).str h1
      have hsz : y'.size = 1 := by
        cases hag : y'.agg with
        | false => exact ((G.ok e y' hy').flat hag).1
        | true =>
          obtain ⟨fs, hf, _⟩ := (G.ok e y' hy').st hag
          have := (G.ok e y' hy').ik _ h2
          rw [hf] at this; cases this
      have hl : (byR s.data.toList).length = s.size := by simp [byR]
      have hex : (s.extract 0 s.size).data = s.data := by
        rw [ByteArray.data_extract]
        have : s.size = s.data.size := rfl
        rw [this, Array.extract_size]
      have hfirst : ∀ w, (Builtin.firstCells y'.size (byR s.data.toList).length (.string s)).run G.P w = .ok ((s.data.toList.map fun b => Value.int .u8 (b.toNat : Int)) : List Value).toArray w := by
        intro w
        simp only [Builtin.firstCells, hl, Sem.run_pure, hex]
        congr 1
        apply Array.ext'
        simp
      refine ⟨none, _, 0, s.data.toList.map (fun b => Value.int .u8 (b.toNat : Int)), _, hK, (fun _ h => by cases h), hu2, (fun k h => by cases h), fun w => by simp only [Builtin.lenOf, Sem.run_pure, hl], hfirst w, hfirst w.drew, by rw [hsz]; simp [byR], ?_, ?_, .inl rfl, ?_, ?_⟩
      · intro v hv
        obtain ⟨b, _, rfl⟩ := List.mem_map.1 hv
        rfl
      · intro i c hc
        simp only [byR, List.getElem?_map, Option.map_eq_some_iff] at hc
        obtain ⟨b, _, rfl⟩ := hc
        rw [hsz]; rfl
      · intro i k v hc
        obtain ⟨rfl, b, hb, rfl⟩ := cellAt_byR hc
        refine ⟨_, ?_, rfl, rfl⟩
        rw [hsz, Nat.mul_one, Nat.add_zero, List.getElem?_map, hb]; rfl
      · intro i k s' ys hc
        obtain ⟨_, b, _, hb⟩ := cellAt_byR hc
        cases hb
  · obtain ⟨h1, hK⟩ := h
    obtain ⟨y2, hy2, hsl⟩ := gen h1
    obtain ⟨e2, he2⟩ := Option.isSome_iff_exists.1 hsl
    have hu2 := (G.ok t2 y2 hy2).sl e2 he2
    have := hv.lit_
    subst this
    exact ⟨none, [], 0, [], _, hK, (fun _ h => by cases h), hu2, (fun k h => by cases h), fun w => by simp [Builtin.lenOf], by simp [Builtin.firstCells], by simp [Builtin.firstCells], by simp, by simp, by simp, .inl rfl, fun i k v hc => by simp [cellAt] at hc, fun i k s ys hc => by simp [cellAt] at hc⟩
  · rename_i e1 sz len
    by_cases ho : hasOwn y'.zero = true
    · rw [if_pos ho] at h
      split at h
      · rename_i s2 E0 hB
        simp only [chk_iff, decide_eq_true_eq] at h
        obtain ⟨h1000, rfl, rfl, h1, h2, hK⟩ := h
        obtain ⟨y2, hy2, hsl⟩ := gen h2
        obtain ⟨e2, he2⟩ := Option.isSome_iff_exists.1 hsl
        have hu2 := (G.ok t2 y2 hy2).sl e2 he2
        have hr : rowsAt st.B e1 [] = some (false, y'.size, E0) := by rw [rowsAt_box hB]; rfl
        have F := R.flat _ _ _ _ _ hr
        have hEl : (E0.take len).length = len := by simp; omega
        cases hv with
        | @sl _ _ _ _ _ cap ad hle hfit =>
          have main : ∃ news : List Value, news.length = len * y'.size ∧ (len ≠ 0 → ∃ A, ad = some A ∧ A.spot = none ∧ ∀ j u, news[j]? = some u → w.cell? ⟨A.block, A.off + j, none⟩ = some u) ∧ (∀ v ∈ news, v.oneCell' = true) ∧ ∀ i k v, cellAt (E0.take len) i k = some v → ∃ u, news[i * y'.size + k]? = some u ∧ u.oneCell' = true ∧ CR M cx.w0 cx.Ro false e1 [] i k v u := by
            by_cases hl0 : len = 0
            · subst hl0; exact ⟨[], by simp, fun h => absurd rfl h, by simp, fun i k v hc => by simp [cellAt] at hc⟩
            · obtain ⟨A, n, hM, rfl, hf⟩ := hfit (by omega)
              have cells : ∀ j, j < len * y'.size → ∃ u, (w.cell? ⟨A.block, A.off + j, none⟩ = some u ∧ u.oneCell' = true) := by
                intro j hj
                have hi : j / y'.size < len := Nat.div_lt_of_lt_mul (by rw [Nat.mul_comm]; exact hj)
                have hi2 : j / y'.size < E0.length := by omega
                have hk : j % y'.size < y'.size := Nat.mod_lt _ hpos
                have hx := F.lens _ _ (List.getElem?_eq_getElem hi2)
                obtain ⟨u, c1, c2, _⟩ := F.cell A n hM (j / y'.size) (j % y'.size) ((E0[j / y'.size]'hi2)[j % y'.size]'(by omega)) (by rw [cellAt_of (List.getElem?_eq_getElem hi2)]; exact List.getElem?_eq_getElem (by omega))
                rw [show A.off + j / y'.size * y'.size + j % y'.size = A.off + j by rw [Nat.add_assoc, Nat.mul_comm, Nat.div_add_mod]] at c1
                exact ⟨u, c1, c2⟩
              obtain ⟨news, n1, n2⟩ := choose_list _ _ cells
              refine ⟨news, n1, fun _ => ⟨_, rfl, rfl, fun j u hj => by simpa using (n2 j u hj).1⟩, ?_, ?_⟩
              · intro v hv
                obtain ⟨j, hj⟩ := List.getElem?_of_mem hv
                exact (n2 j v hj).2
              · intro i k v hc
                obtain ⟨hi, hc2⟩ := cellAt_take hc
                obtain ⟨u, c1, c2, c3⟩ := F.cell A n hM i k v hc2
                have hlt : i * y'.size + k < news.length := by rw [n1]; exact idx_lt hi (F.k_lt hc2)
                have := (n2 _ _ (List.getElem?_eq_getElem hlt)).1
                rw [← Nat.add_assoc, c1] at this
                refine ⟨u, ?_, c2, c3⟩
                rw [List.getElem?_eq_getElem hlt]; exact this.symm
          obtain ⟨news, n1, n2, n3, n4⟩ := main
          refine ⟨some e1, _, e1, news, _, hK, (fun _ h => by cases h; omega), hu2, (fun k h => by cases h), fun w => by simp [Builtin.lenOf, hEl], by rw [hEl]; exact run_first_slice G.P n1 n2, by rw [hEl]; exact run_first_slice G.P n1 n2, by rw [hEl]; exact n1, n3, ?_, .inr rfl, n4, ?_⟩
          · intro i x hx
            rw [List.getElem?_take] at hx
            split at hx
            · exact F.lens _ x hx
            · cases hx
          · intro i k s ys hc
            exact ⟨rfl, E0, hB, (cellAt_take hc).2⟩
      · exact h.elim
    · rw [if_neg ho] at h
      obtain ⟨y2, hy2, hsl⟩ := gen h.1
      exact els_lit R hpos hv hy2 hsl h.2
  · obtain ⟨y2, hy2, hsl⟩ := gen h.1
    exact els_lit R hpos hv hy2 hsl h.2
theorem rowsAt_cell {B : Bs} {b : Nat} {q : Path} {t : Bool} {s : Nat} {xs0 : Row} (hr : rowsAt B b q = some (t, s, xs0)) {i k sz : Nat} {xs : Row} (hc : cellAt xs0 i k = some (.own sz xs)) : rowsAt B b (q ++ [(i, k)]) = some (false, sz, xs) := by
  unfold rowsAt at hr ⊢
  cases hb : B b with
  | none => rw [hb] at hr; cases hr
  | some x =>
    obtain ⟨t0, s0, ys⟩ := x
    rw [hb] at hr
    simp only [Option.map_eq_some_iff, Prod.mk.injEq] at hr ⊢
    obtain ⟨⟨s1, zs⟩, h1, h2, h3, h4⟩ := hr
    simp only at h3 h4
    subst h3; subst h4
    refine ⟨(sz, xs), ?_, by simp, rfl, rfl⟩
    rw [sub_append _ _ _ _ _ _ h1]
    simp [sub, hc]
theorem appw_sound (R : Rel cx M st a w) {d0 t t2 ty : Nat} {s x : V} {us ux : Value} {K : St → V → Prop} (h5 : 500 ≤ d0) (h1000 : 1000 ≤ d0) (h : appw G.tt st d0 t t2 s x K) (hs : VR M cx.w0 cx.Ro s us) (hx : VR M cx.w0 cx.Ro x ux) :
    ∃ r w1 M' st' v, (Builtin.append_ #[t, t2] ty #[us, ux]).run G.P w = .ok r w1 ∧ K st' v ∧ Rel cx M' st' a w1 ∧ VR M' cx.w0 cx.Ro v r ∧ (tailz st s → Ks st.B M w w1) := by
  unfold appw at h
  simp only [chk_iff, decide_eq_true_eq] at h
  cases hy : G.tt t with
  | none => rw [hy] at h; exact h.elim
  | some y =>
    rw [hy] at h
    simp only at h
    cases hsl : y.sl with
    | none => rw [hsl] at h; exact h.elim
    | some e =>
      rw [hsl] at h
      simp only at h
      cases hy' : G.tt e with
      | none => rw [hy'] at h; exact h.elim
      | some y' =>
        rw [hy'] at h
        simp only at h
        have key : ∀ {M1 : Mp} {st1 : St} {d off len : Nat} {xs : Row} {x : V}, Rel cx M1 st1 a w → 500 ≤ d → 1000 ≤ d → st1.B d = some (false, y'.size, xs) → off + len ≤ xs.length → VR M1 cx.w0 cx.Ro (.sl d [] y'.size off len) us → VR M1 cx.w0 cx.Ro x ux → appTo G.tt st1 d y'.size off len xs y' t2 x K →
            ∃ r w1 M' st' v, (Builtin.append_ #[t, t2] ty #[us, ux]).run G.P w = .ok r w1 ∧ K st' v ∧ Rel cx M' st' a w1 ∧ VR M' cx.w0 cx.Ro v r ∧ Kp (fun k o => ∃ A n, M1 d [] = some (A, n) ∧ A.block = k ∧ A.off + (off + len) * y'.size ≤ o) w w1 := by
          intro M1 st1 d off len xs x R hd5 _ hB hlen hs hx h
          unfold appTo at h
          simp only [chk_iff, decide_eq_true_eq] at h
          obtain ⟨eo, E, e0, news, d2, ⟨hne, hb1, hb2, hK⟩, h5e, X⟩ := appEls_ok (t := t) R hy' hx h
          obtain ⟨r, w1, M', run, R', hv', _, kp⟩ := append_sound R hy hsl hy' t2 ty X.ty X.noInt d eo hd5 h5e hB hlen hs ux news X.len X.first X.firstD X.size X.one X.lens e0 X.eo_ X.cell (fun i k s ys hc => by
            obtain ⟨q1, E0, q2, q3⟩ := X.own i k s ys hc
            exact ⟨q1, (fun hh => by subst hh; exact hne q1), E0, q2, q3⟩) hb1 hb2
          have hl : ((xs.drop off).take len ++ E).length = len + E.length := by simp; omega
          unfold appRow at hK
          rw [hl] at hK
          exact ⟨r, w1, M', _, _, run, hK, R', hv', kp⟩
        split at h
        · rename_i d sz off len
          obtain ⟨rfl, h⟩ := h
          split at h
          · rename_i s2 xs hB
            obtain ⟨rfl, hlen, h⟩ := h
            split at h
            · rename_i hd
              obtain ⟨r, w1, M', st', v, g1, g2, g3, g4, kp⟩ := key R (by have := of_decide_eq_true hd; omega) (of_decide_eq_true hd) hB hlen hs hx h
              refine ⟨r, w1, M', st', v, g1, g2, g3, g4, fun ht => (Kp.refl _ w).trans kp fun k o _ hko => ?_⟩
              obtain ⟨A, n, hA, hb, hle⟩ := hko
              unfold tailz at ht
              simp only [hB] at ht
              exact ⟨d, [], _, xs, A, n, by rw [rowsAt_box hB]; rfl, hA, hb, by rw [← ht]; exact hle⟩
            · rename_i hd
              have := of_decide_eq_false hd
              obtain ⟨M1, R1, m0, m1⟩ := R.take hB h5 (by omega)
              obtain ⟨r, w1, M', st', v, g1, g2, g3, g4, kp⟩ := key R1 h5 h1000 (upd_same _ _ _) hlen (by
                cases hs with
                | sl c1 c2 => exact .sl c1 (by rw [m0]; exact c2)) (hx.struck m1) h
              refine ⟨r, w1, M', st', v, g1, g2, g3, g4, fun ht => (Kp.refl _ w).trans kp fun k o _ hko => ?_⟩
              obtain ⟨A, n, hA, hb, hle⟩ := hko
              unfold tailz at ht
              simp only [hB] at ht
              exact ⟨d, [], _, xs, A, n, by rw [rowsAt_box hB]; rfl, by rw [← m0]; exact hA, hb, by rw [← ht]; exact hle⟩
          · exact h.elim
        · rename_i b p r sz off len
          obtain ⟨rfl, h⟩ := h
          split at h
          · rename_i q i k hlq
            have hq := lastOf_ok _ _ _ _ hlq
            split at h
            · rename_i t0 s0 xs0 hr
              obtain ⟨xs, hc, hlen, hne, h⟩ := h
              obtain ⟨M1, R1, m0, m1⟩ := R.release hr hc d0 hne h5 (relP b q i k d0) rfl
              have hs2 := hs
              rw [hq] at hs2
              obtain ⟨r', w1, M', st', v, g1, g2, g3, g4, kp⟩ := key R1 h5 h1000 (upd_same _ _ _) hlen (by
                cases hs2 with
                | sl c1 c2 => exact .sl c1 (by rw [m0]; exact c2)) (hx.struck m1) h
              refine ⟨r', w1, M', st', v, g1, g2, g3, g4, fun ht => (Kp.refl _ w).trans kp fun k' o _ hko => ?_⟩
              obtain ⟨A, n, hA, hb, hle⟩ := hko
              unfold tailz at ht
              simp only [hlq, hr] at ht
              obtain ⟨xs', hc', ht⟩ := ht
              rw [hc] at hc'
              simp only [Option.some.injEq, V.own.injEq] at hc'
              obtain ⟨_, rfl⟩ := hc'
              refine ⟨b, p :: r, _, xs, A, n, ?_, by rw [hq, ← m0]; exact hA, hb, by rw [← ht]; exact hle⟩
              rw [hq, rowsAt_cell hr hc]
            · exact h.elim
          · exact h.elim
        · have := hs.lit_
          subst this
          obtain ⟨M1, R1, m1, m2⟩ := R.nilBox d0 y'.size none h5 (fun _ h => by cases h)
          have R1' : Rel cx M1 (addBox st d0 false y'.size []) a w := by
            have e1 : oneOf d0 none = boxIs d0 := by funext b q; simp [oneOf, boxIs]
            rw [e1] at R1; exact R1
          have hx' : VR M1 cx.w0 cx.Ro (kill (boxIs d0) x) ux := hx.struck (fun b q hb => m2 b q (by simpa [oneOf, boxIs] using hb))
          obtain ⟨eo, E, e0, news, d2, ⟨hne, hb1, hb2, hK⟩, h5e, X⟩ := appEls_ok (t := t) R1' hy' hx' h
          have hB : (addBox st d0 false y'.size []).B d0 = some (false, y'.size, []) := upd_same _ _ _
          obtain ⟨r, w1, M', run, R', hv', _, kp⟩ := append_sound R1' hy hsl hy' t2 ty X.ty X.noInt d0 eo h5 h5e (off := 0) (len := 0) hB (by simp) (us := .slice none 0 0) (.sl ⟨Nat.le_refl _, by decide⟩ (fun h => by omega)) ux news X.len X.first X.firstD X.size X.one X.lens e0 X.eo_ X.cell (fun i k s ys hc => by
              obtain ⟨q1, E0, q2, q3⟩ := X.own i k s ys hc
              exact ⟨q1, (fun hh => by subst hh; exact hne q1), E0, q2, q3⟩) (by simpa using hb1) (by simpa using hb2)
          unfold appRow at hK
          refine ⟨r, w1, M', _, _, run, hK, by simpa using R', by simpa using hv', fun _ => (Kp.refl _ w).trans kp fun k' o _ hko => ?_⟩
          obtain ⟨A, n, hA, _⟩ := hko
          rw [m1] at hA
          cases hA
        · exact h.elim
end Go.Proofs.Ytniibpihbopehaa.M

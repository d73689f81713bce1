/- Calls that turn what they are given are right. -/
import Derived.Test.YtniibpihbopehaaS3
namespace Go.Proofs.Ytniibpihbopehaa.M
open Go Go.RowKit
set_option linter.unusedVariables false
set_option linter.unusedSimpArgs false
variable {cx : Cx} {M M' : Mp} {st : St} {a : Act} {w w' : World} {G : Pg} {p : Nat → Path → Bool}
def gCx (M : Mp) (B : Bs) (l : List (Nat × Path)) (w : World) (Ro' : Nat → Prop) (h : ∀ k, Ro' k → k < w.heap.size ∧ ¬ FRow M B l k) (hg : GlobOk w Ro') : Cx := ⟨w, Ro', FCell M B l, 0, FRow M B l, inM M l, fun k hk => (h k hk).1, fun k o hk hs => (h k hk).2 hs.row, hg⟩
theorem Rel.handedG (R : Rel cx M st a w) {l : List (Nat × Path)} (hap : apartB l = true) {Ro' : Nat → Prop} (hRo : ∀ k, Ro' k → k < w.heap.size ∧ ¬ FRow M st.B l k) (g1 : ∀ k, cx.Ro k → Ro' k) {bs : Bl} (hbs1 : ∀ i b p, l[i]? = some (b, p) → ∃ t s xs, rowsAt st.B b p = some (t, s, xs) ∧ toB bs (0 + i) = some (t, s, rowIn l t xs)) (hbs2 : ∀ k x, toB bs k = some x → ∃ i, i < l.length ∧ k = 0 + i) :
    RelB (gCx M st.B l w Ro' hRo (R.globTo g1)) (inM M l) (toB bs) w := by
  have hb : ∀ j q x, rowsAt (toB bs) j q = some x → ∃ b p ys, l[j]? = some (b, p) ∧ rowsAt st.B b (p ++ q) = some (x.1, x.2.1, ys) ∧ x.2.2 = rowIn l x.1 ys ∧ foc l 0 b (p ++ q) = some (j, q) := by
    intro j q x hx
    cases hj : toB bs j with
    | none => unfold rowsAt at hx; rw [hj] at hx; cases hx
    | some y =>
      obtain ⟨i, hi, rfl⟩ := hbs2 j y hj
      have hl : ∃ b p, l[i]? = some (b, p) := ⟨_, _, List.getElem?_eq_getElem hi⟩
      obtain ⟨b, p, hl⟩ := hl
      obtain ⟨t, s, xs, e1, e2⟩ := hbs1 i b p hl
      rw [rowsAt_toB e2] at hx
      by_cases hq : q = []
      · subst hq
        simp only [sub, Option.map_some, List.isEmpty_nil, Bool.and_true, Option.some.injEq] at hx
        subst hx
        refine ⟨b, p, xs, by rw [Nat.zero_add]; exact hl, by rw [rowsAt_append e1]; simp [sub], rfl, by rw [foc_of l 0 hap i b p hl []]⟩
      · rw [sub_rowIn l t s xs q hq] at hx
        refine ⟨b, p, x.2.2, by rw [Nat.zero_add]; exact hl, ?_, ?_, by rw [foc_of l 0 hap i b p hl q]⟩
        · rw [rowsAt_append e1, hx]
        · obtain ⟨z, h1, rfl⟩ := Option.map_eq_some_iff.1 hx
          have : q.isEmpty = false := by cases q <;> simp_all
          simp [this, rowIn]
  have hM : ∀ j b p q, l[j]? = some (b, p) → inM M l j q = M b (p ++ q) := by intro j b p q h; unfold inM; rw [h]
  refine ⟨rfl, rfl, fun t => .undef _, fun j q t s ys hx => ?_, fun j q j' q' h h' A n A' n' hA hA' hbl => ?_, fun j q t s ys hx A n hA => ?_, Kp.refl _ _, fun b _ => rfl⟩
  · obtain ⟨b, p, xs, h1, h2, h4, h3⟩ := hb j q _ hx
    simp only at h2 h4
    have F := R.flat b (p ++ q) t s xs h2
    refine ⟨?_, fun h => ?_, fun A n hA => ?_, fun A n hA i k v hv => ?_⟩
    · rw [h4]; exact rowIn_len l t xs s F.lens
    · have := F.none (by rw [← hM j b p q h1]; exact h)
      rw [h4, this]; cases t <;> rfl
    · have := F.there A n (by rw [← hM j b p q h1]; exact hA)
      rw [h4, rowIn_length]; exact this
    · rw [hM j b p q h1] at hA
      rw [h4, rowIn_cell] at hv
      obtain ⟨v0, hv0, rfl⟩ := Option.map_eq_some_iff.1 hv
      obtain ⟨u, c1, c2, c3⟩ := F.cell A n hA i k v0 hv0
      refine ⟨u, c1, c2, ?_⟩
      have own : ∀ s2 zs, v0 = .own s2 zs → CR (inM M l) w Ro' t j q i k (.own s2 zs) u := by
        intro s2 zs e
        subst e
        simp only [CR] at c3 ⊢
        cases c3 with
        | sl d1 d2 => exact .sl d1 (by rw [hM j b p _ h1, ← List.append_assoc]; exact d2)
      cases t with
      | false =>
        simp only [Bool.false_eq_true, if_false, id_eq]
        cases v0
        case own s2 zs => exact own _ _ rfl
        case lit => exact c3
        case undef => trivial
        all_goals exact absurd c3.1 (by simp)
      | true =>
        simp only [if_true]
        cases v0
        case own s2 zs => exact own _ _ rfl
        case lit => exact c3
        case undef => trivial
        case imm s2 zs =>
          refine ⟨rfl, ?_⟩
          cases c3.2 with
          | imm hr => exact .imm (R.rdMono g1 hr)
        case pro cs =>
          refine ⟨rfl, ?_⟩
          cases c3.2 with
          | pro d1 d2 d3 =>
            refine .pro d1 (g1 _ d2) (fun k v hk => ?_)
            obtain ⟨u, g0, g3⟩ := d3 k v hk
            exact ⟨u, by show w.cell? _ = some u; rw [R.roCell d2]; exact g0, R.rdMono g1 g3⟩
        case sl b2 q2 s2 o2 l2 =>
          simp only [inV]
          cases hf : foc l 0 b2 q2 with
          | none => trivial
          | some x =>
            obtain ⟨j2, r2⟩ := x
            obtain ⟨i2, p2, e1, e2, e3⟩ := foc_some _ _ _ _ _ _ hf
            rw [Nat.zero_add] at e1
            subst e1 e3
            refine ⟨rfl, ?_⟩
            cases c3.2 with
            | sl d1 d2 => exact .sl d1 (by rw [hM _ _ _ _ e2]; exact d2)
        case ptr b2 q2 s2 i2' k2 =>
          simp only [inV]
          cases hf : foc l 0 b2 q2 with
          | none => trivial
          | some x =>
            obtain ⟨j2, r2⟩ := x
            obtain ⟨i2, p2, e1, e2, e3⟩ := foc_some _ _ _ _ _ _ hf
            rw [Nat.zero_add] at e1
            subst e1 e3
            refine ⟨rfl, ?_⟩
            cases c3.2 with
            | ptr d1 => exact .ptr (by rw [hM _ _ _ _ e2]; exact d1)
        all_goals trivial
  · obtain ⟨x, h⟩ := Option.isSome_iff_exists.1 h
    obtain ⟨x', h'⟩ := Option.isSome_iff_exists.1 h'
    obtain ⟨b, p, ys, h1, h2, _, h3⟩ := hb j q _ h
    obtain ⟨b', p', ys', h1', h2', _, h3'⟩ := hb j' q' _ h'
    rw [hM _ _ _ _ h1] at hA
    rw [hM _ _ _ _ h1'] at hA'
    obtain ⟨e1, e2⟩ := R.inj _ _ _ _ (by rw [h2]; rfl) (by rw [h2']; rfl) A n A' n' hA hA' hbl
    rw [← e1, ← e2, h3] at h3'
    simp only [Option.some.injEq, Prod.mk.injEq] at h3'
    exact h3'
  · obtain ⟨b, p, xs, h1, h2, h4, h3⟩ := hb j q _ hx
    simp only at h2 h4
    rw [hM _ _ _ _ h1] at hA
    have hF : FRow M st.B l A.block := ⟨b, p ++ q, _, A, n, by rw [h3]; rfl, h2, hA, rfl⟩
    exact ⟨fun h => (hRo _ h).2 hF, fun _ => ⟨hF, fun o ho ht => ⟨b, p ++ q, t, s, xs, A, n, by rw [h3]; rfl, h2, hA, rfl, ho, fun e => by have := ht e; rw [h4, rowIn_length] at this; exact this⟩⟩⟩
theorem VR.outed {d : Nat} (hd : d < 1000) {l : List (Nat × Path)} (hap : apartB l = true) (hres : (l.all fun x => (resId d x.1).isNone) = true) {M2 : Mp} {wd wd' : World} {Ro Ro' : Nat → Prop} {ok : V → Bool} 
    (hro : ∀ k, Ro k → ok = (fun _ => true) → Ro' k ∧ ∀ o, wd'.cell? ⟨k, o, none⟩ = wd.cell? ⟨k, o, none⟩) {v : V} {u : Value} (h : VR M2 wd Ro v u) (hok : ok = (fun _ => true) ∨ noRo v = true) : VR (outM d l M M2) wd' Ro' (outV d l v) u := by
  have m1 : ∀ b q j r, idF d l b q = some (j, r) → outM d l M M2 b q = M2 j r := by intro b q j r h; unfold outM; rw [h]
  have low : ∀ j b p q, l[j]? = some (b, p) → outM d l M M2 b (p ++ q) = M2 j q := by
    intro j b p q hj
    refine m1 _ _ _ _ ?_
    unfold idF
    have := List.all_eq_true.1 hres _ (List.mem_of_getElem? hj)
    simp only [Option.isNone_iff_eq_none] at this
    rw [this]
    have := foc_of l 0 hap j b p hj q
    rw [Nat.zero_add] at this; exact this
  have high : ∀ j q, 500 ≤ j → outM d l M M2 (resName d j) q = M2 j q := by
    intro j q hj
    refine m1 _ _ _ _ ?_
    unfold idF
    rw [resId_name hd hj]
  have sub1 : ∀ (v : V) (vs : List V), v ∈ vs → noRoL vs = true → noRo v = true := fun v vs hm h => by
    obtain ⟨k, hk⟩ := List.getElem?_of_mem hm
    exact noRoL_get h k v hk
  induction h with
  | lit x => rw [outV]; exact .lit _
  | undef x => rw [outV]; exact .undef _
  | imm h =>
    rw [outV]
    rcases hok with rfl | hn
    · exact .imm (Rd.mono (fun k hk => (hro k hk rfl).1) (fun k o hk => (hro k hk rfl).2 o) h)
    · rw [noRo] at hn; cases hn; all_goals intros; contradiction
  | pro h1 h2 h3 =>
    rw [outV]
    rcases hok with rfl | hn
    · refine .pro h1 (hro _ h2 rfl).1 (fun k v hv => ?_)
      obtain ⟨u, g1, g2⟩ := h3 k v hv
      exact ⟨u, by rw [(hro _ h2 rfl).2]; exact g1, Rd.mono (fun k hk => (hro k hk rfl).1) (fun k o hk => (hro k hk rfl).2 o) g2⟩
    · rw [noRo] at hn; cases hn; all_goals intros; contradiction
  | @sl b q sz off len cap ad h1 h2 =>
    rw [outV]
    split
    · rename_i hb
      split
      · rename_i b' p hl
        exact .sl h1 (by rw [low _ _ _ _ hl]; exact h2)
      · exact .undef _
    · rename_i hb
      have := of_decide_eq_false hb
      exact .sl h1 (by rw [high _ _ (by omega)]; exact h2)
  | @ptr b q sz i k n A h1 =>
    rw [outV]
    split
    · rename_i hb
      split
      · rename_i b' p hl
        exact .ptr (n := n) (by rw [low _ _ _ _ hl]; exact h1)
      · exact .undef _
    · rename_i hb
      have := of_decide_eq_false hb
      exact .ptr (n := n) (by rw [high _ _ (by omega)]; exact h1)
  | agg h1 h2 ih =>
    rw [outV]
    refine .agg (by rw [outVL_length]; exact h1) (fun k v u hv hu => ?_)
    rw [outVL_get] at hv
    obtain ⟨x, hx, rfl⟩ := Option.map_eq_some_iff.1 hv
    exact ih k x u hx hu (hok.imp id fun h => by rw [noRo] at h; exact noRoL_get h k x hx)
  | tup h1 h2 ih =>
    rw [outV]
    refine .tup (by rw [outVL_length]; exact h1) (fun k v u hv hu => ?_)
    rw [outVL_get] at hv
    obtain ⟨x, hx, rfl⟩ := Option.map_eq_some_iff.1 hv
    exact ih k x u hx hu (hok.imp id fun h => by rw [noRo] at h; exact noRoL_get h k x hx)
  | fn h1 h2 ih =>
    rw [outV]
    refine .fn (by rw [outVL_length]; exact h1) (fun k v u hv hu => ?_)
    rw [outVL_get] at hv
    obtain ⟨x, hx, rfl⟩ := Option.map_eq_some_iff.1 hv
    exact ih k x u hx hu (hok.imp id fun h => by rw [noRo] at h; exact noRoL_get h k x hx)
theorem Rel.backedG (R : Rel cx M st a w) {d : Nat} (hd : d < 1000) {l : List (Nat × Path)} (hap : apartB l = true) (hl : l.length < 500) (hres : (l.all fun x => (resId d x.1).isNone) = true) {Ro' : Nat → Prop} (hRo : ∀ k, Ro' k → k < w.heap.size ∧ ¬ FRow M st.B l k) {ok : V → Bool} (hg : GlobOk w Ro')
    (hro : ∀ k, Ro' k → ok = (fun _ => true) → cx.Ro k ∧ ∀ o, cx.w0.cell? ⟨k, o, none⟩ = w.cell? ⟨k, o, none⟩) {bs' : Bl} {M2 : Mp} {w1 : World} (R1 : RelB (gCx M st.B l w Ro' hRo hg) M2 (toB bs') w1)
    (hok : ok = (fun _ => true) ∨ (bs'.all fun x => !x.2.1 || x.2.2.2.all noRoL) = true) (hall : ∀ j x, toB bs' j = some x → j < 500 → j < l.length) (hback : backG st.B bs' l 0) :
    Rel cx (outM d l M M2) { T := fun t => kill (killG d l bs') (st.T t), B := impG d l st.B bs' } a w1 := by
  have bk := backG_ok l 0 hback
  have m1 : ∀ b q j r, idF d l b q = some (j, r) → outM d l M M2 b q = M2 j r := by intro b q j r h; unfold outM; rw [h]
  have m2 : ∀ b q, idF d l b q = none → outM d l M M2 b q = M b q := by intro b q h; unfold outM; rw [h]
  have foc_lt : ∀ b q j r, foc l 0 b q = some (j, r) → j < l.length ∧ ∃ p, l[j]? = some (b, p) ∧ q = p ++ r := by
    intro b q j r h
    obtain ⟨i, p, e1, e2, e3⟩ := foc_some _ _ _ _ _ _ h
    rw [Nat.zero_add] at e1
    subst e1
    exact ⟨(List.getElem?_eq_some_iff.1 e2).1, p, e2, e3⟩
  have hM : ∀ b q, killG d l bs' b q = false → outM d l M M2 b q = M b q := by
    intro b q h
    unfold killG killF at h
    rw [Bool.or_eq_false_iff, Bool.or_eq_false_iff] at h
    have hr : resId d b = none := by simpa [isRes] using h.1.1
    cases hf : foc l 0 b q with
    | none => exact m2 b q (by unfold idF; rw [hr]; exact hf)
    | some x =>
      obtain ⟨j, r⟩ := x
      rw [m1 b q j r (by unfold idF; rw [hr]; exact hf)]
      obtain ⟨hj, p, e1, e2⟩ := foc_lt _ _ _ _ hf
      cases r with
      | cons y r => have := h.1.2; unfold strict at this; rw [hf] at this; cases this
      | nil =>
        have := R1.root j (by omega)
        rw [this]
        show inM M l j [] = M b q
        unfold inM
        rw [e1, e2]
  have hgone : ∀ b, gone bs' l 0 b = true → ∀ q x, rowsAt st.B b q = some x → 500 ≤ b ∧ (foc l 0 b q).isSome = true := by
    intro b h q x hx
    obtain ⟨i, p, h1, h2⟩ := (gone_iff l 0 b).1 h
    obtain ⟨t, s, xs, e1, e2⟩ := bk i b p h1
    rcases e2 with ⟨xs', e2, _⟩ | ⟨_, e3, e4⟩
    · rw [h2] at e2; cases e2
    · subst e4
      refine ⟨e3, ?_⟩
      have := foc_of l 0 hap i b [] h1 q
      rw [List.nil_append] at this
      rw [this]; rfl
  have nokill : ∀ b q, idF d l b q = none → gone bs' l 0 b = false → killG d l bs' b q = false := by
    intro b q h hg
    unfold idF at h
    unfold killG killF strict isRes
    rw [hg]
    cases hr : resId d b with
    | some j => rw [hr] at h; cases h
    | none => rw [hr] at h; simp only at h; rw [h]; rfl
  have live : ∀ b q t s ys, rowsAt (impG d l st.B bs') b q = some (t, s, ys) → (∃ j r ys0, idF d l b q = some (j, r) ∧ rowsAt (toB bs') j r = some (t, s, ys0) ∧ ys = rowOut d l t ys0) ∨ (idF d l b q = none ∧ gone bs' l 0 b = false ∧ ∃ zs, rowsAt st.B b q = some (t, s, zs) ∧ like (killRow (killG d l bs') t zs) ys) := by
    intro b q t s ys h
    have outed : ∀ j r, rowsAt (toB (outBl d l bs')) j r = some (t, s, ys) → ∃ ys0, rowsAt (toB bs') j r = some (t, s, ys0) ∧ ys = rowOut d l t ys0 := by
      intro j r h
      rw [rowsAt_outBl] at h
      obtain ⟨⟨t', s', ys0⟩, h1, h2⟩ := Option.map_eq_some_iff.1 h
      simp only [Prod.mk.injEq] at h2
      obtain ⟨rfl, rfl, rfl⟩ := h2
      exact ⟨ys0, h1, rfl⟩
    cases hr : resId d b with
    | some j =>
      obtain ⟨ys0, g1, g2⟩ := outed j q (by
        unfold rowsAt impG at h
        unfold rowsAt
        rw [hr] at h; exact h)
      exact .inl ⟨j, q, ys0, by unfold idF; rw [hr], g1, g2⟩
    | none =>
      cases hg : gone bs' l 0 b with
      | true =>
        exfalso
        unfold rowsAt impG at h
        rw [hr, hg] at h
        cases h
      | false =>
        have e : rowsAt (impG d l st.B bs') b q = rowsAt (setsB l 0 (outBl d l bs') (killB (killG d l bs') st.B)) b q := by unfold rowsAt impG; rw [hr, hg]
        rw [e] at h
        -- the places that came back
        have key : (∃ i r, foc l 0 b q = some (0 + i, r) ∧ rowsAt (toB (outBl d l bs')) (0 + i) r = some (t, s, ys)) ∨ (foc l 0 b q = none ∧ ∃ zs, rowsAt (killB (killG d l bs') st.B) b q = some (t, s, zs) ∧ like zs ys) := by
          refine sets_live_g l 0 _ hap (fun i b p hi => ?_) b q t s ys (fun i p hi => ?_) h
          · obtain ⟨t, s, xs, e1, e2⟩ := bk i b p hi
            refine ⟨t, s, _, by rw [rowsAt_killB, e1]; rfl, ?_⟩
            rcases e2 with ⟨xs', e2, e3⟩ | ⟨e2, _⟩
            · exact .inl ⟨rowOut d l t xs', by rw [toB_outBl, e2]; rfl, by rw [rowOut_length, killRow_length]; exact e3⟩
            · exact .inr (by rw [toB_outBl, e2]; rfl)
          · intro hno
            have : gone bs' l 0 b = true := (gone_iff l 0 b).2 ⟨i, p, hi, by
              rw [toB_outBl] at hno
              cases hb : toB bs' (0 + i) with
              | none => rfl
              | some x => rw [hb] at hno; cases hno⟩
            rw [hg] at this; cases this
        rcases key with ⟨i, r, g1, g2⟩ | ⟨g1, zs, g2, g3⟩
        · obtain ⟨ys0, g3, g4⟩ := outed _ _ g2
          exact .inl ⟨0 + i, r, ys0, by unfold idF; rw [hr]; exact g1, g3, g4⟩
        · rw [rowsAt_killB] at g2
          obtain ⟨⟨t', s', ws⟩, h1, h2⟩ := Option.map_eq_some_iff.1 g2
          simp only [Prod.mk.injEq] at h2
          obtain ⟨rfl, rfl, rfl⟩ := h2
          exact .inr ⟨by unfold idF; rw [hr]; exact g1, rfl, ws, h1, g3⟩
  have hS : ∀ k o, FCell M st.B l k o → k < cx.w0.heap.size → cx.S k o := by
    rintro k o ⟨b, q, t, s, xs, A, n, h1, h2, h3, rfl, h5, h6⟩ hk
    exact ((R.away b q t s xs h2 A n h3).2 hk).2 o h5 h6
  have old : ∀ j r x A n, rowsAt (toB bs') j r = some x → M2 j r = some (A, n) → w.heap.size ≤ A.block ∨ (FRow M st.B l A.block ∧ ∀ o, o < n → (x.1 = true → A.off ≤ o ∧ o < A.off + x.2.2.length * x.2.1) → FCell M st.B l A.block o) := by
    intro j r x A n h1 h2
    obtain ⟨t, s, ys⟩ := x
    have := (R1.away j r t s ys h1 A n h2).2
    rcases Nat.lt_or_ge A.block w.heap.size with h | h
    · exact .inr (this h)
    · exact .inl h
  have noF : ∀ b q x A n, idF d l b q = none → rowsAt st.B b q = some x → M b q = some (A, n) → ¬ FRow M st.B l A.block := by
    rintro b q x A n hid h1 h2 ⟨b0, q0, x0, A0, n0, f1, f2, f3, f4⟩
    obtain ⟨rfl, rfl⟩ := R.inj b0 q0 b q (by rw [f2]; rfl) (by rw [h1]; rfl) A0 n0 A n f3 h2 f4
    unfold idF at hid
    cases hr : resId d b0 with
    | some j => rw [hr] at hid; cases hid
    | none => rw [hr] at hid; simp only at hid; rw [hid] at f1; cases f1
  refine R.change (killG d l bs') _ hM ?_ ?_ ?_ ?_ ?_
  · intro b q t s ys h
    rcases live b q t s ys h with ⟨j, r, ys0, hj, h1, rfl⟩ | ⟨hj, hg, zs, h1, h2⟩
    · have F := R1.flat j r t s ys0 h1
      refine ⟨rowOut_len d l t ys0 s F.lens, fun h => ?_, fun A n hA => ?_, fun A n hA i k v hv => ?_⟩
      · have := F.none (by rw [← m1 b q j r hj]; exact h)
        rw [this]; cases t <;> rfl
      · rw [rowOut_length]; exact F.there A n (by rw [← m1 b q j r hj]; exact hA)
      · rw [m1 b q j r hj] at hA
        rw [rowOut_cell] at hv
        obtain ⟨v0, hv0, rfl⟩ := Option.map_eq_some_iff.1 hv
        obtain ⟨u, g1, g2, g3⟩ := F.cell A n hA i k v0 hv0
        refine ⟨u, g1, g2, ?_⟩
        have own : ∀ s2 zs, v0 = .own s2 zs → CR (outM d l M M2) cx.w0 cx.Ro t b q i k (.own s2 zs) u := by
          intro s2 zs e
          subst e
          simp only [CR] at g3 ⊢
          cases g3 with
          | sl c1 c2 => exact .sl c1 (by rw [m1 b _ j _ (idF_append hap hj _)]; exact c2)
        cases t with
        | false =>
          simp only [Bool.false_eq_true, if_false, id_eq]
          cases v0
          case own s2 zs => exact own _ _ rfl
          case lit => exact g3
          case undef => trivial
          all_goals exact absurd g3.1 (by simp)
        | true =>
          simp only [if_true]
          have hn : ok = (fun _ => true) ∨ noRo v0 = true := by
            rcases hok with h | h
            · exact .inl h
            · refine .inr ?_
              have hq : r = [] := by
                unfold rowsAt at h1
                cases hb : toB bs' j with
                | none => rw [hb] at h1; cases h1
                | some x =>
                  rw [hb] at h1
                  simp only at h1
                  obtain ⟨y, _, h4⟩ := Option.map_eq_some_iff.1 h1
                  simp only [Prod.mk.injEq, Bool.and_eq_true] at h4
                  simpa using h4.1.2
              subst hq
              have hb := rowsAt_of h1
              have ha := List.all_eq_true.1 h _ (toB_mem hb)
              simp only [Bool.not_true, Bool.false_or] at ha
              unfold cellAt at hv0
              cases hx : ys0[i]? with
              | none => rw [hx] at hv0; cases hv0
              | some x =>
                rw [hx] at hv0
                exact noRoL_get (List.all_eq_true.1 ha x (List.mem_of_getElem? hx)) k v0 hv0
          have tr : ∀ {u}, VR M2 w Ro' v0 u → VR (outM d l M M2) cx.w0 cx.Ro (outV d l v0) u := fun h => h.outed hd hap hres hro hn
          cases v0
          case own s2 zs => rw [outV]; exact own _ _ rfl
          case lit => rw [outV]; exact g3
          case undef => rw [outV]; trivial
          all_goals
            have hg := tr g3.2
            generalize hz : outV d l _ = z at hg ⊢
            cases z
            case own s2 zs => have := outV_own d l _ s2 zs hz; cases this
            case lit x => exact hg.lit_
            case undef => trivial
            all_goals exact ⟨rfl, hg⟩
    · refine Flat.like ((R.flat b q t s zs h1).struck hM (nokill b q hj hg) (fun i k s' ys' hx => ?_) (fun A n hA => ?_)) h2
      · cases hk : killG d l bs' b (q ++ [(i, k)]) with
        | false => rfl
        | true =>
          exfalso
          unfold killG killF at hk
          rw [hg] at hk
          unfold idF at hj
          cases hr : resId d b with
          | some j => rw [hr] at hj; cases hj
          | none =>
            rw [hr] at hj
            simp only at hj
            simp only [isRes, hr, Option.isSome_none, Bool.false_or, Bool.or_false] at hk
            unfold strict at hk
            split at hk
            · rename_i j y r hf
              obtain ⟨_, p, e1, e2⟩ := foc_lt _ _ _ _ hf
              have e3 : q = p ++ (y :: r).dropLast := by
                have := congrArg List.dropLast e2
                rw [List.dropLast_concat] at this
                rw [this, List.dropLast_append_of_ne_nil (by simp)]
              exact foc_none l 0 b q hj p (List.mem_of_getElem? e1) _ e3
            · cases hk
      · have k1 : Kp (FCell M st.B l) w w1 := R1.keep
        exact k1.block _ (R.block_lt h1 hA) (fun o hS => noF b q _ A n hj h1 hA hS.row)
  · intro b q b' q' h h' A n A' n' hA hA' hbl
    obtain ⟨⟨t, s, ys⟩, h⟩ := Option.isSome_iff_exists.1 h
    obtain ⟨⟨t', s', ys'⟩, h'⟩ := Option.isSome_iff_exists.1 h'
    rcases live b q t s ys h with ⟨j, r, ys0, hj, h1, _⟩ | ⟨hj, _, zs, h1, _⟩ <;> rcases live b' q' t' s' ys' h' with ⟨j', r', ys0', hj', h1', _⟩ | ⟨hj', _, zs', h1', _⟩
    · rw [m1 _ _ _ _ hj] at hA
      rw [m1 _ _ _ _ hj'] at hA'
      obtain ⟨rfl, rfl⟩ := R1.inj j r j' r' (by show (rowsAt (toB bs') j r).isSome = true; rw [h1]; rfl) (by show (rowsAt (toB bs') j' r').isSome = true; rw [h1']; rfl) A n A' n' hA hA' hbl
      exact idF_inj hd hl hj hj'
    · rw [m1 _ _ _ _ hj] at hA
      rw [m2 _ _ hj'] at hA'
      have := R.block_lt h1' hA'
      rcases old _ _ _ _ _ h1 hA with h | ⟨h, _⟩
      · omega
      · exact absurd (hbl ▸ h) (noF b' q' _ A' n' hj' h1' hA')
    · rw [m2 _ _ hj] at hA
      rw [m1 _ _ _ _ hj'] at hA'
      have := R.block_lt h1 hA
      rcases old _ _ _ _ _ h1' hA' with h | ⟨h, _⟩
      · omega
      · exact absurd (hbl ▸ h) (noF b q _ A n hj h1 hA)
    · rw [m2 _ _ hj] at hA
      rw [m2 _ _ hj'] at hA'
      exact R.inj b q b' q' (by rw [h1]; rfl) (by rw [h1']; rfl) A n A' n' hA hA' hbl
  · intro b q t s ys h A n hA
    rcases live b q t s ys h with ⟨j, r, ys0, hj, h1, rfl⟩ | ⟨hj, _, zs, h1, h2⟩
    · rw [m1 _ _ _ _ hj] at hA
      have := R.keep.size
      rcases old _ _ _ _ _ h1 hA with g | ⟨⟨b0, q0, ⟨t0, s0, x0⟩, A0, n0, f1, f2, f3, f4⟩, g⟩
      · exact ⟨fun hr => by have := cx.ro _ hr; omega, fun hlt => by omega⟩
      · have := R.away b0 q0 t0 s0 x0 f2 A0 n0 f3
        rw [f4] at this
        exact ⟨this.1, fun hlt => ⟨(this.2 hlt).1, fun o ho ht => hS _ _ (g o ho (fun e => by have := ht e; rw [rowOut_length] at this; exact this)) hlt⟩⟩
    · rw [m2 _ _ hj] at hA
      have e : ys.length = zs.length := by rw [← h2.1, killRow_length]
      rw [e]
      exact R.away b q t s zs h1 A n hA
  · have k1 : Kp (FCell M st.B l) w w1 := R1.keep
    exact R.keep.trans k1 (fun b o hb hs => hS b o hs hb)
  · intro b hb
    unfold killG killF
    rw [Bool.or_eq_false_iff, Bool.or_eq_false_iff]
    refine ⟨⟨by simp [isRes, resId]; omega, ?_⟩, ?_⟩
    · unfold strict
      split
      · rename_i j y r hf
        obtain ⟨_, p, _, e⟩ := foc_lt _ _ _ _ hf
        have := congrArg List.length e
        simp at this
      · rfl
    · cases hg : gone bs' l 0 b with
      | false => rfl
      | true =>
        obtain ⟨i, p, h1, h2⟩ := (gone_iff l 0 b).1 hg
        obtain ⟨t, s, xs, e1, e2⟩ := bk i b p h1
        rcases e2 with ⟨xs', e2, _⟩ | ⟨_, e3, e4⟩
        · rw [h2] at e2; cases e2
        · omega
theorem callG_sound (R : Rel cx M st a w) {f : Nat} {args : List V} {o : Option Nat} {K : St → Prop} {vals : Array Value} (h : callG G st f args o K) (hd : o.getD 999 < 1000) (ho : ∀ d, o = some d → d < cx.N) (hv : VRs M cx.w0 cx.Ro args vals) : (∃ fn, G.P.funcs[f]? = some fn ∧ (fn.name == "runtime.NumGoroutine") = false ∧ fn.body.isSome = true) ∧ Calls G.P f vals w (Back cx a o K) := by
  obtain ⟨vw, l, r, bs', hap, hres, hl, hcl, hall, hin, hback, hK⟩ := h
  have hl := of_decide_eq_true hl
  obtain ⟨bs, hvw, hbs1, hbs2⟩ := handG_ok l 0 _ hin
  have roF : ∀ k, cx.Ro k → ¬ FRow M st.B l k := fun k hk ⟨b, q, ⟨t, s, xs⟩, A, n, f1, f2, f3, f4⟩ => (R.away b q t s xs f2 A n f3).1 (f4 ▸ hk)
  obtain ⟨Ro', hRo, g1, hB2, ok, hro, hok⟩ : ∃ Ro' : Nat → Prop, ∃ (hRo : ∀ k, Ro' k → k < w.heap.size ∧ ¬ FRow M st.B l k), (∀ k, cx.Ro k → Ro' k) ∧ (∃ B2 : Bs, (∀ b x, B2 b = some x → st.B b = some x) ∧ (∀ b q x A n, rowsAt B2 b q = some x → M b q = some (A, n) → Ro' A.block) ∧ ∃ bs'' : Bl, bs'' = bs ∧ views (foc l 0) B2 args fun args' => FnB G f args' bs r bs') ∧ ∃ ok : V → Bool,
      (∀ k, Ro' k → ok = (fun _ => true) → cx.Ro k ∧ ∀ o, cx.w0.cell? ⟨k, o, none⟩ = w.cell? ⟨k, o, none⟩) ∧ (ok = (fun _ => true) ∨ (vw = true)) := by
    cases vw with
    | false => exact ⟨cx.Ro, fun k hk => ⟨R.roLt hk, roF k hk⟩, fun _ h => h, ⟨noB, (by intro b x h; simp [noB] at h), (by intro b q x A n h; simp [rowsAt, noB] at h), bs, rfl, hvw⟩, fun _ => true, fun k hk _ => ⟨hk, fun o => (R.roCell hk).symm⟩, .inl rfl⟩
    | true =>
      have hmin : ∀ b x, minusB l st.B b = some x → st.B b = some x := by
        intro b x h
        unfold minusB at h
        split at h
        · cases h
        · exact h
      refine ⟨fun k => k < w.heap.size ∧ ¬ FRow M st.B l k, fun k h => h, fun k hk => ⟨R.roLt hk, roF k hk⟩, ⟨minusB l st.B, hmin, ?_, bs, rfl, hvw⟩, fun _ => false, fun k _ h => ?_, .inr rfl⟩
      · intro b q x A n h1 h2
        have h1' : rowsAt st.B b q = some x := BLe.rows hmin h1
        refine ⟨R.block_lt h1' h2, ?_⟩
        rintro ⟨b0, q0, x0, A0, n0, f1, f2, f3, f4⟩
        obtain ⟨rfl, rfl⟩ := R.inj b0 q0 b q (by rw [f2]; rfl) (by rw [h1']; rfl) A0 n0 A n f3 h2 f4
        obtain ⟨⟨j, r⟩, hf⟩ := Option.isSome_iff_exists.1 f1
        obtain ⟨i, p, _, e2, _⟩ := foc_some _ _ _ _ _ _ hf
        have : (l.any fun x => decide (x.1 = b0)) = true := List.any_eq_true.2 ⟨_, List.mem_of_getElem? e2, by simp⟩
        have hno : minusB l st.B b0 = none := by unfold minusB; rw [this]
        have h1 : rowsAt (minusB l st.B) b0 q0 = some x := h1
        unfold rowsAt at h1
        rw [hno] at h1
        cases h1
      · have := congrFun h .undef
        cases this
  obtain ⟨B2, hmin, hB3, bs'', _, hvw⟩ := hB2
  have Rm : Rel cx M { T := st.T, B := B2 } a w := R.fewer hmin
  obtain ⟨args', hF, hlen, hvs⟩ := views_ok Rm (F := foc l 0) (Ro' := Ro') g1 hB3 (inM M l) (fun b q j r hf => by
      obtain ⟨i, p, e1, e2, e3⟩ := foc_some _ _ _ _ _ _ hf
      rw [Nat.zero_add] at e1
      subst e1 e3
      unfold inM; rw [e2]) args vals.toList _ hvw (by rw [Array.length_toList]; exact hv.1) (fun k v u hv' hu => hv.2 k v u hv' (by simpa using hu))
  obtain ⟨hfn, hF⟩ := hF.h
  refine ⟨hfn, ?_⟩
  have RB := R.handedG hap hRo g1 hbs1 hbs2
  have c := hF (gCx M st.B l w Ro' hRo (R.globTo g1)) (inM M l) vals RB ⟨by rw [← Array.length_toList]; exact hlen, fun k v u hv' hu => hvs k v u hv' (by simpa using hu)⟩
  refine c.mono fun e w' hw => ?_
  obtain ⟨u, M2, rfl, R1, hr⟩ := hw
  have hall2 : ∀ x ∈ bs', (x.1 < 500 → x.1 < l.length) ∧ (vw = true → (!x.2.1 || x.2.2.2.all noRoL) = true) := by
    intro x hx
    have := List.all_eq_true.1 hall x hx
    simp only [Bool.and_eq_true, Bool.or_eq_true, Bool.not_eq_true', decide_eq_true_eq, decide_eq_false_iff_not] at this
    refine ⟨fun h => ?_, fun h => ?_⟩
    · rcases this.1 with h1 | h1
      · omega
      · exact h1
    · subst h
      rcases this.2 with (h1 | h1) | h1
      · cases h1
      · rw [h1]; rfl
      · rw [h1]; simp
  have Ri := R.backedG hd hap hl hres hRo (R.globTo g1) hro R1 (hok.imp id fun h => List.all_eq_true.2 fun x hx => (hall2 x hx).2 h) (fun j x hx hj => (hall2 _ (toB_mem hx)).1 hj) hback
  exact back_put Ri ho (VR.outed (M := M) hd hap hres hro hr (hok.imp id fun h => by subst h; simpa using hcl)) hK
end Go.Proofs.Ytniibpihbopehaa.M

/- 'qwp' is right: the rest of the operations, and all together. -/
import Derived.Test.YtniibpihbopehaaM6
import Derived.Laws.Cover3
namespace Go.Proofs.Ytniibpihbopehaa.M
open Go Go.RowKit
set_option linter.unusedVariables false
set_option linter.unusedSimpArgs false
variable {cx : Cx} {M : Mp} {st : St} {a : Act} {w : World} {G : Pg} {K : V → Prop} {o : Oper} {C : World → Prop}
theorem tells_field (R : Rel cx M st a w) (s f : Nat) (x : Operand) (ho : o.op = .field s x f) (h : qwp G.tt st.T st.B (.field s x f) K) : Tells G cx C M a w o K := by
  simp only [qwp, chk_iff, decide_eq_true_eq, Bool.or_eq_true, Option.isNone_iff_eq_none, Array.isEmpty_iff, Bool.not_eq_true', Bool.and_eq_true] at h
  have hx := R.ev_ x
  cases hy : G.tt s with
  | none => rw [hy] at h; exact h.elim
  | some y =>
    rw [hy] at h
    simp only at h
    cases hf : y.flds[f]? with
    | none => rw [hf] at h; exact h.elim
    | some p =>
      obtain ⟨off, ft⟩ := p
      rw [hf] at h
      simp only at h
      obtain ⟨hagg, h⟩ := h
      cases hz : G.tt ft with
      | none => rw [hz] at h; exact h.elim
      | some z =>
        rw [hz] at h
        simp only at h
        obtain ⟨fs, hu, hfl⟩ := (G.ok s y hy).st hagg
        obtain ⟨i, zz, hi, hs, _⟩ := (G.ok ft z hz).info
        rw [← hfl, List.getElem?_map] at hf
        obtain ⟨fl, hfl1, hfl2⟩ := Option.map_eq_some_iff.1 hf
        simp only [Prod.mk.injEq] at hfl2
        obtain ⟨rfl, rfl⟩ := hfl2
        have hfs : fs[f]? = some fl := by simpa using hfl1
        generalize ev st.T x = e at h hx
        cases e <;> simp only at h <;> try exact h.elim
        case agg cs =>
          obtain ⟨hle, hK⟩ := h
          generalize hg : a.eval x = g at hx
          cases hx with
          | @agg _ us hl hus =>
            cases hza : z.agg with
            | true =>
              rw [hza] at hK
              simp only [if_true] at hK
              obtain ⟨fs2, hu2, _⟩ := (G.ok fl.type z hz).st hza
              refine ⟨_, .agg (us.extract fl.offset (fl.offset + z.size)), hK, ?_, ?_⟩
              · intro w' _; simp [execOp, ho, hg, Instr.field, run_underlying hu, hfs, part, run_isAgg_st hu2, run_sizeOf' hi, hs, asAgg]
              · refine .agg (by simp; omega) (fun k v u hv hu => ?_)
                rw [List.getElem?_take] at hv
                by_cases hk : k < z.size
                · rw [if_pos hk, List.getElem?_drop] at hv
                  refine hus _ v u hv ?_
                  rw [Array.getElem?_extract] at hu
                  split at hu
                  · exact hu
                  · cases hu
                · rw [if_neg hk] at hv; cases hv
            | false =>
              rw [hza] at hK
              simp only [Bool.false_eq_true, if_false] at hK
              obtain ⟨h1, d, hd, hd1, hd2⟩ := (G.ok fl.type z hz).flat hza
              have hlt : fl.offset < us.size := by omega
              refine ⟨_, us[fl.offset], hK, ?_, ?_⟩
              · intro w' _; simp [execOp, ho, hg, Instr.field, run_underlying hu, hfs, part, run_isAgg_no hd hd1 hd2, hlt, asAgg]
              · refine hus fl.offset _ _ ?_ (Array.getElem?_eq_getElem hlt)
                rw [List.getD_eq_getElem?_getD, List.getElem?_eq_getElem (by omega)]; rfl
theorem tells_index (R : Rel cx M st a w) (t : Nat) (x ix : Operand) (ho : o.op = .index t x ix) (h : qwp G.tt st.T st.B (.index t x ix) K) : Tells G cx C M a w o K := by
  simp only [qwp, chk_iff, decide_eq_true_eq, Bool.or_eq_true, Option.isNone_iff_eq_none, Array.isEmpty_iff, Bool.not_eq_true', Bool.and_eq_true] at h
  have hx := R.ev_ x
  have hi := R.ev_ ix
  generalize ev st.T ix = ei at h hi
  generalize ev st.T x = ex at h hx
  split at h
  · rename_i y s kk n hy
    obtain ⟨hs, h0, h1, hK⟩ := h
    have e1 := hx.lit_
    have e2 := hi.lit_
    obtain ⟨hlt, hb⟩ := byteAt_get s n h0 h1
    refine ⟨_, _, hK, ?_, .lit _⟩
    intro w' _; simp [execOp, ho, e1, e2, Instr.index, run_underlying ((G.ok t y hy).str hs), asIntOf, h0, hlt, ← hb]
  · exact h.elim
theorem bnds_str (R : Rel cx M st a w) (lo hi : Option Operand) (s : ByteArray) (k : Int → Int → Prop) (h : bnds (lo.map (ev st.T)) (hi.map (ev st.T)) none s.size k) :
    ∃ l h m : Nat, k l h ∧ ∀ w, (Instr.sliceBounds false s.size s.size (lo.map a.eval) (hi.map a.eval) none).run G.P w = .ok (l, h, m) w := by
  obtain ⟨l, hh, m, h1, h2, _⟩ := bnds_run (P := G.P) R false lo hi none s.size s.size k h (Nat.le_refl _)
  exact ⟨l, hh, m, h1, h2⟩
theorem tells_slice (R : Rel cx M st a w) (t : Nat) (x : Operand) (lo hi mx : Option Operand) (ho : o.op = .slice t x lo hi mx) (h : qwp G.tt st.T st.B (.slice t x lo hi mx) K) : Tells G cx C M a w o K := by
  simp only [qwp, chk_iff, decide_eq_true_eq, Bool.or_eq_true, Option.isNone_iff_eq_none, Array.isEmpty_iff, Bool.not_eq_true', Bool.and_eq_true] at h
  have hx := R.ev_ x
  cases hy : G.tt t with
  | none => rw [hy] at h; exact h.elim
  | some y =>
    rw [hy] at h
    simp only at h
    generalize ev st.T x = e at h hx
    split at h
    · rename_i s
      obtain ⟨hs, rfl, h⟩ := h
      have e1 := hx.lit_
      obtain ⟨l, hh, m, hK, hb⟩ := bnds_str (G := G) R lo hi s _ h
      refine ⟨_, _, hK, ?_, .lit _⟩
      have hu := (G.ok t y hy).str hs
      intro w' _; simp [execOp, ho, e1, Instr.sliceAt, Instr.slice, run_underlying hu, hb]
    · rename_i b q sz off len
      cases hsl : y.sl with
      | none => rw [hsl] at h; exact h.elim
      | some e =>
        rw [hsl] at h
        simp only at h
        cases hz : G.tt e with
        | none => rw [hz] at h; exact h.elim
        | some z =>
          rw [hz] at h
          simp only at h
          obtain ⟨rfl, h⟩ := h
          generalize hg : a.eval x = g at hx
          have hx2 := hx
          cases hx with
          | @sl _ _ _ _ _ cap ad hle hfit =>
            obtain ⟨l, hh, m, hK, hb, h1, h2, h3, h4⟩ := bnds_run (P := G.P) R true lo hi mx len cap _ h hle.1
            obtain ⟨r, hr, hv⟩ := slice_sl t e y z hy hsl hz hx2 _ _ _ l hh m hb h1 h3 h4
            rw [Nat.add_comm off l] at hv
            exact ⟨_, r, hK, fun w' _ => by simp [execOp, ho, hg, hr], hv⟩
    · rename_i sz xs
      cases hsl : y.sl with
      | none => rw [hsl] at h; exact h.elim
      | some e =>
        rw [hsl] at h
        simp only at h
        cases hz : G.tt e with
        | none => rw [hz] at h; exact h.elim
        | some z =>
          rw [hz] at h
          simp only at h
          obtain ⟨rfl, h⟩ := h
          have hu := (G.ok t y hy).sl e hsl
          obtain ⟨i, zz, hi', hs, _⟩ := (G.ok e z hz).info
          generalize hg : a.eval x = g at hx
          cases hx with
          | imm hrd =>
            have form : ∃ ad cap, g = .slice ad xs.length cap ∧ xs.length ≤ cap := by
              cases hrd with
              | nil hn => rcases hn with hn | hn <;> cases hn; exact ⟨_, _, rfl, Nat.zero_le _⟩
              | row U hn h1 h2 h3 => rcases hn with hn | hn <;> cases hn; exact ⟨_, _, rfl, h3⟩
            obtain ⟨ad, cap, rfl, hle⟩ := form
            obtain ⟨l, hh, m, hK, hb, h1, h2, h3, h4⟩ := bnds_run (P := G.P) R true lo hi mx xs.length cap _ h hle
            exact ⟨_, _, hK, fun w' _ => by simp [execOp, ho, hg, Instr.sliceAt, Instr.slice, run_underlying hu, hb, run_sizeOf' hi', hs], .imm (rd_cut hrd h1 h3 h4 h2)⟩
    · exact h.elim
theorem tells_binOp (R : Rel cx M st a w) (op : BinOp) (t t' : Nat) (x y : Operand) (ho : o.op = .binOp op t x y t') (h : qwp G.tt st.T st.B (.binOp op t x y t') K) : Tells G cx C M a w o K := by
  simp only [qwp, chk_iff, decide_eq_true_eq, Bool.or_eq_true, Option.isNone_iff_eq_none, Array.isEmpty_iff, Bool.not_eq_true', Bool.and_eq_true] at h
  have hx := R.ev_ x
  have hy := R.ev_ y
  generalize ev st.T y = e2 at h hy
  generalize ev st.T x = e1 at h hx
  have guard : ∀ (va vb : Value), (∀ c, va ≠ .agg c) → va ≠ .nilIface → ∀ w, (eqGuard op t x y va vb).run G.P w = .ok () w := by
    intro va vb h1 h2 w
    unfold eqGuard
    cases op <;> simp <;> cases va <;> simp_all
  have nils : ∀ n : Nat, (∃ ad cap, a.eval x = .slice ad n cap ∧ (ad = none → n = 0)) → a.eval y = .slice none 0 0 → (match G.tt t with | some y => y.sl.isSome = true ∧ nilT op n K | none => False) → Tells G cx C M a w o K := by
    rintro n ⟨ad, cap, hg, hnil⟩ e2 h
    split at h
    · rename_i z hz
      obtain ⟨h1, h2⟩ := h
      obtain ⟨el, hel⟩ := Option.isSome_iff_exists.1 h1
      have hu := (G.ok t z hz).sl el hel
      have hb : ad.isNone = true → n = 0 := fun h => hnil (by simpa using h)
      unfold nilT at h2
      split at h2
      · refine ⟨_, .bool ad.isNone, h2 ad.isNone hb, fun w' _ => ?_, .lit _⟩
        simp [execOp, ho, hg, e2, eqGuard, binOp, run_equal_slice_nil w' t el ad n cap hu]
      · refine ⟨_, .bool (!ad.isNone), h2 (!ad.isNone) (fun h => hb (by simpa using h)), fun w' _ => ?_, .lit _⟩
        simp [execOp, ho, hg, e2, eqGuard, binOp, run_equal_slice_nil w' t el ad n cap hu]
      · exact h2.elim
    · exact h.elim
  split at h
  · rename_i k n k' m
    obtain ⟨hk, h⟩ := h
    have e1 := hx.lit_
    have e2 := hy.lit_
    obtain ⟨v, hi, h⟩ := intK_ok h
    exact ⟨_, v, h, fun w' _ => by simp [execOp, ho, e1, e2, guard (.int k n) (.int k' m) (fun c => by simp) (by simp), run_intOp op t k k' n m v hk hi], .lit _⟩
  · rename_i s u
    have e1 := hx.lit_
    have e2 := hy.lit_
    split at h
    · obtain ⟨hle, hK⟩ := h
      exact ⟨_, _, hK, fun w' _ => by simp [execOp, ho, e1, e2, guard (.string s) (.string u) (fun c => by simp) (by simp), run_cat t s u hle], .lit _⟩
    · cases hi : strOp op s u with
      | none => rw [hi] at h; exact h.elim
      | some v =>
        rw [hi] at h
        exact ⟨_, v, h, fun w' _ => by simp [execOp, ho, e1, e2, guard (.string s) (.string u) (fun c => by simp) (by simp), run_strOp op t s u v hi], .lit _⟩
  · rename_i p q
    have e1 := hx.lit_
    have e2 := hy.lit_
    unfold isAggT at h
    have hb : (p == q) = decide (p = q) := by cases p <;> cases q <;> rfl
    have hn : (!(p == q)) = decide (¬ p = q) := by cases p <;> cases q <;> rfl
    split at h
    · split at h
      · rename_i z hz
        have hu := (G.ok t z hz).bool h.1
        exact ⟨_, _, h.2, fun w' _ => by simp [execOp, ho, e1, e2, guard (.bool p) (.bool q) (fun c => by simp) (by simp), run_eql_bool w' t p q hu, hb], .lit _⟩
      · exact h.elim
    · split at h
      · rename_i z hz
        have hu := (G.ok t z hz).bool h.1
        exact ⟨_, .bool (!(p == q)), h.2, fun w' _ => by simp [execOp, ho, e1, e2, guard (.bool p) (.bool q) (fun c => by simp) (by simp), run_neq_bool w' t p q hu], by rw [hn]; exact .lit _⟩
      · exact h.elim
    · exact h.elim
  · rename_i sz xs
    unfold isAggT at h
    have e2 := hy.lit_
    have form : ∃ ad cap, a.eval x = .slice ad xs.length cap ∧ (ad = none → xs.length = 0) := by
      generalize a.eval x = g at hx
      cases hx with
      | imm hrd =>
        cases hrd with
        | nil hn => rcases hn with hn | hn <;> cases hn; exact ⟨_, _, rfl, fun _ => rfl⟩
        | row U hn h1 h2 h3 => rcases hn with hn | hn <;> cases hn; exact ⟨_, _, rfl, fun h => by cases h⟩
    exact nils _ form e2 h
  · rename_i b q sz off n
    unfold isAggT at h
    have e2 := hy.lit_
    have form : ∃ ad cap, a.eval x = .slice ad n cap ∧ (ad = none → n = 0) := by
      generalize a.eval x = g at hx
      cases hx with
      | @sl _ _ _ _ _ cap ad hle hfit =>
        refine ⟨_, _, rfl, fun h => ?_⟩
        rcases Nat.eq_zero_or_pos n with h0 | h0
        · exact h0
        · obtain ⟨A, m, _, h2, _⟩ := hfit (by omega)
          rw [h] at h2; cases h2
    exact nils _ form e2 h
  · exact h.elim
theorem tells_convert (R : Rel cx M st a w) (s d : Nat) (x : Operand) (ho : o.op = .convert s d x) (h : qwp G.tt st.T st.B (.convert s d x) K) : Tells G cx C M a w o K := by
  simp only [qwp, chk_iff, decide_eq_true_eq, Bool.or_eq_true, Option.isNone_iff_eq_none, Array.isEmpty_iff, Bool.not_eq_true', Bool.and_eq_true] at h
  have hx := R.ev_ x
  generalize ev st.T x = e at h hx
  split at h
  · rename_i y z hy hz
    have hsome : ∃ ds, G.P.underlying s = some ds := by
      cases hya : y.agg with
      | true => obtain ⟨fs, hu, _⟩ := (G.ok s y hy).st hya; exact ⟨_, hu⟩
      | false => obtain ⟨_, d, hu, _⟩ := (G.ok s y hy).flat hya; exact ⟨_, hu⟩
    obtain ⟨ds, hds⟩ := hsome
    split at h
    · rename_i k n
      have e1 := hx.lit_
      split at h
      · rename_i k' hk'
        have hu := (G.ok d z hz).ik _ hk'
        exact ⟨_, _, h.get, fun w' _ => by simp [execOp, ho, e1, convert, run_underlying hds, run_underlying hu, Conv.intToInt], .lit _⟩
      · exact h.elim
    · rename_i u
      have e1 := hx.lit_
      have hu := (G.ok d z hz).str h.1
      have hus := (G.ok s y hy).str h.2.1
      exact ⟨_, _, h.2.2, fun w' _ => by simp [execOp, ho, e1, convert, run_underlying hus, run_underlying hu], .lit _⟩
    · exact h.elim
  · exact h.elim
theorem tells_len (R : Rel cx M st a w) (c : Call) (ho : o.op = .call c) (hc : c.callee = .builtin .len) (h : qwp G.tt st.T st.B (.call c) K) : Tells G cx C M a w o K := by
  simp only [qwp, hc, chk_iff, decide_eq_true_eq, Bool.or_eq_true, Option.isNone_iff_eq_none, Array.isEmpty_iff, Bool.not_eq_true', Bool.and_eq_true] at h
  split at h
  · rename_i x t hx1 ht1
    obtain ⟨callee, args, types⟩ := c
    simp only at hc hx1 ht1
    subst hc
    obtain rfl : args = #[x] := by rw [← Array.toList_inj]; exact hx1
    obtain rfl : types = #[t] := by rw [← Array.toList_inj]; exact ht1
    have hx := R.ev_ x
    generalize ev st.T x = e at h hx
    cases hy : G.tt t with
    | none => rw [hy] at h; exact h.elim
    | some y =>
      rw [hy] at h
      simp only at h
      split at h
      · rename_i s
        have e1 := hx.lit_
        have hu := (G.ok t y hy).str h.1
        exact ⟨_, _, h.2, fun w' _ => by simp [execOp, ho, resolve, invoke, builtin, Builtin.len_, e1, run_underlying hu, goInt], .lit _⟩
      · obtain ⟨hs, h⟩ := h
        obtain ⟨el, hel⟩ := Option.isSome_iff_exists.1 hs
        have hu := (G.ok t y hy).sl el hel
        have fin : ∀ (n : Nat), (∃ ad cap, a.eval x = .slice ad n cap) → K (.lit (.int .i64 n)) → Tells G cx C M a w o K := by
          rintro n ⟨ad, cap, hg⟩ hK
          exact ⟨_, _, hK, fun w' _ => by simp [execOp, ho, resolve, invoke, builtin, Builtin.len_, hg, run_underlying hu, goInt], .lit _⟩
        unfold lenV at h
        split at h
        · rename_i sz xs
          generalize hg : a.eval x = g at hx fin
          cases hx with
          | imm hrd =>
            cases hrd with
            | nil hn => rcases hn with hn | hn <;> cases hn; exact fin 0 ⟨_, _, rfl⟩ h
            | row U hn h1 h2 h3 => rcases hn with hn | hn <;> cases hn; exact fin _ ⟨_, _, rfl⟩ h
        · rename_i b q sz off len
          generalize hg : a.eval x = g at hx fin
          cases hx with
          | sl hle hfit => exact fin _ ⟨_, _, rfl⟩ h
        · exact fin 0 ⟨_, _, hx.lit_⟩ h
        · exact h.elim
  · exact h.elim
end Go.Proofs.Ytniibpihbopehaa.M

/- 'qwp' is right. -/
import Derived.Test.YtniibpihbopehaaM5
namespace Go.Proofs.Ytniibpihbopehaa.M
open Go Go.RowKit
set_option linter.unusedVariables false
set_option linter.unusedSimpArgs false
variable {cx : Cx} {M : Mp} {st : St} {a : Act} {w : World} {G : Pg} {K : V → Prop} {o : Oper} {C : World → Prop}
/-- What an operation tells, and that it turns nothing. -/
def Tells (G : Pg) (cx : Cx) (C : World → Prop) (M : Mp) (a : Act) (w : World) (o : Oper) (K : V → Prop) : Prop := ∃ v u, K v ∧ (∀ w', C w' → (execOp a.eval o).run G.P w' = .ok (.value u) w') ∧ VR M cx.w0 cx.Ro v u
theorem byteAt_get (s : ByteArray) (n : Int) (h0 : 0 ≤ n) (h1 : n < s.size) : ∃ h : n.toNat < s.size, ((s[n.toNat]'h).toNat : Int) = byteAt s n := by
  have h : n.toNat < s.size := by omega
  refine ⟨h, ?_⟩
  unfold byteAt
  have e : s.data.toList.getD n.toNat 0 = s[n.toNat]'h := by
    have h' : n.toNat < s.data.toList.length := by rw [Array.length_toList]; exact h
    rw [List.getD_eq_getElem?_getD, List.getElem?_eq_getElem h']; rfl
  rw [e]
theorem tells_load (R : Rel cx M st a w) (t : Nat) (x : Operand) (ho : o.op = .load t x) (h : qwp G.tt st.T st.B (.load t x) K) : Tells G cx (Ks st.B M w) M a w o K := by
  simp only [qwp, chk_iff, decide_eq_true_eq, Bool.or_eq_true, Option.isNone_iff_eq_none, Array.isEmpty_iff, Bool.not_eq_true', Bool.and_eq_true] at h
  have hx := R.ev_ x
  cases hy : G.tt t with
  | none => rw [hy] at h; exact h.elim
  | some y =>
    rw [hy] at h
    simp only at h
    have fin : ∀ v, K v → (∃ r, (∀ w', Ks st.B M w w' → (Instr.loadAt t (a.eval x)).run G.P w' = .ok r w') ∧ VR M cx.w0 cx.Ro v r) → Tells G cx (Ks st.B M w) M a w o K := by
      rintro v hk ⟨r, h1, h2⟩
      exact ⟨v, r, hk, fun w' hs => by simp [execOp, ho, h1 w' hs], h2⟩
    generalize ev st.T x = e at h hx
    cases e <;> simp only at h <;> try exact h.elim
    case pro cs => exact fin _ h.2 (load_pro R y t hy hx h.1)
    case ptr b q sz i k =>
      obtain ⟨⟨top, sz', xs⟩, hr, h⟩ := pathP_ok h
      simp only [chk_iff, decide_eq_true_eq] at h
      obtain ⟨rfl, x0, hx0, h2, h3⟩ := h
      have h1 := (List.getElem?_eq_some_iff.1 hx0).1
      have e0 : xs.getD i [] = x0 := by rw [List.getD_eq_getElem?_getD, hx0]; rfl
      rw [← e0] at h3
      exact fin _ h3 (load_ptr R y t hy hx hr h1 h2)
theorem tells_fieldAddr (R : Rel cx M st a w) (s f : Nat) (x : Operand) (ho : o.op = .fieldAddr s x f) (h : qwp G.tt st.T st.B (.fieldAddr s x f) K) : Tells G cx C M a w o K := by
  simp only [qwp, chk_iff, decide_eq_true_eq, Bool.or_eq_true, Option.isNone_iff_eq_none, Array.isEmpty_iff, Bool.not_eq_true', Bool.and_eq_true] at h
  have hx := R.ev_ x
  cases hy : G.tt s with
  | none => rw [hy] at h; exact h.elim
  | some y =>
    rw [hy] at h
    simp only at h
    cases hf : y.flds[f]? with
    | none => rw [hf] at h; exact h.elim
    | some p =>
      obtain ⟨off, ft⟩ := p
      rw [hf] at h
      simp only at h
      obtain ⟨hagg, hft, h⟩ := h
      obtain ⟨fs, hu, hfl⟩ := (G.ok s y hy).st hagg
      obtain ⟨z, hz⟩ := Option.isSome_iff_exists.1 hft
      obtain ⟨i, zz, hi, hs, _⟩ := (G.ok ft z hz).info
      have hpos := (G.ok ft z hz).pos
      rw [← hfl, List.getElem?_map] at hf
      obtain ⟨fl, hfl1, hfl2⟩ := Option.map_eq_some_iff.1 hf
      simp only [Prod.mk.injEq] at hfl2
      obtain ⟨rfl, rfl⟩ := hfl2
      have hfs : fs[f]? = some fl := by simpa using hfl1
      have run : ∀ A : Addr, a.eval x = .pointer (some A) → ∀ w', C w' → (execOp a.eval o).run G.P w' = .ok (.value (.pointer (some (A.add fl.offset)))) w' := by
        intro A hA w' _
        have hne : ¬ i.size = 0 := by omega
        simp [execOp, ho, hA, Instr.fieldAt, run_underlying hu, hfs, Instr.sureAddr, fieldPlace, run_sizeOf' hi, hne]
      generalize ev st.T x = e at h hx
      cases e <;> simp only at h <;> try exact h.elim
      case pro cs =>
        generalize hg : a.eval x = g at hx
        cases hx with
        | @pro _ A hsp hro hc =>
          refine ⟨_, _, h, run A hg, ?_⟩
          rw [add_of_spot hsp]
          refine .pro rfl hro (fun k v hv => ?_)
          rw [List.getElem?_drop] at hv
          obtain ⟨u, h1, h2⟩ := hc _ v hv
          exact ⟨u, by rw [show A.off + fl.offset + k = A.off + (fl.offset + k) by omega]; exact h1, h2⟩
      case ptr b q sz i k =>
        generalize hg : a.eval x = g at hx
        cases hx with
        | @ptr _ _ _ _ _ n A hM =>
          refine ⟨_, _, h, run _ hg, ?_⟩
          rw [add_plain]
          have := VR.ptr (w := cx.w0) (Ro := cx.Ro) (sz := sz) (i := i) (k := k + fl.offset) hM
          rw [← Nat.add_assoc] at this
          exact this
theorem tells_indexAddr (R : Rel cx M st a w) (t : Nat) (x ix : Operand) (ho : o.op = .indexAddr t x ix) (h : qwp G.tt st.T st.B (.indexAddr t x ix) K) : Tells G cx C M a w o K := by
  simp only [qwp, chk_iff, decide_eq_true_eq, Bool.or_eq_true, Option.isNone_iff_eq_none, Array.isEmpty_iff, Bool.not_eq_true', Bool.and_eq_true] at h
  have hx := R.ev_ x
  have hi := R.ev_ ix
  generalize ev st.T ix = ei at h hi
  split at h
  · rename_i y kk n hy
    cases hsl : y.sl with
    | none => rw [hsl] at h; exact h.elim
    | some e =>
      rw [hsl] at h
      simp only at h
      cases hz : G.tt e with
      | none => rw [hz] at h; exact h.elim
      | some z =>
        rw [hz] at h
        simp only at h
        have hu := (G.ok t y hy).sl e hsl
        obtain ⟨i, zz, hi', hs, _⟩ := (G.ok e z hz).info
        have hie := hi.lit_
        have run : ∀ (A : Addr) (len cap : Nat), a.eval x = .slice (some A) len cap → 0 ≤ n → n < len → ∀ w', C w' → (execOp a.eval o).run G.P w' = .ok (.value (.pointer (some (A.add (n.toNat * z.size))))) w' := by
          intro A len cap hA h0 h1 w' _
          simp [execOp, ho, hA, hie, Instr.indexAt, run_underlying hu, asIntOf, run_sizeOf' hi', hs, h0, h1]
        generalize ev st.T x = e' at h hx
        cases e' <;> simp only at h <;> try exact h.elim
        case imm sz xs =>
          obtain ⟨rfl, h0, x0, hx0, hK⟩ := h
          have h1 : n < xs.length := by have := (List.getElem?_eq_some_iff.1 hx0).1; omega
          have e0 : xs.getD n.toNat [] = x0 := by rw [List.getD_eq_getElem?_getD, hx0]; rfl
          rw [← e0] at hK
          generalize hg : a.eval x = g at hx
          cases hx with
          | imm hrd =>
            cases hrd with
            | nil hn =>
              rcases hn with hn | hn
              · cases hn
              · cases hn; simp at h1; omega
            | @row _ _ _ A c U hn hsp hro hc hl hcell hrd =>
              rcases hn with hn | hn
              · cases hn
              · cases hn
                refine ⟨_, _, hK, run A _ _ hg h0 h1, ?_⟩
                rw [add_of_spot hsp]
                have hlt : n.toNat < xs.length := by omega
                refine .pro rfl hro (fun k v hv => ?_)
                have hc2 : cellAt xs n.toNat k = some v := by rw [cellAt_of (getD_of_lt hlt)]; exact hv
                exact ⟨_, hcell _ _ _ hc2, hrd _ _ _ hc2⟩
        case sl b q sz off len =>
          obtain ⟨rfl, h0, h1, hK⟩ := h
          generalize hg : a.eval x = g at hx
          cases hx with
          | @sl _ _ _ _ _ cap ad hle hfit =>
            obtain ⟨A, m, hM, rfl, hfit'⟩ := hfit (by omega)
            refine ⟨_, _, hK, run _ _ _ hg h0 h1, ?_⟩
            rw [add_plain]
            rw [Nat.add_comm n.toNat off]
            have := VR.ptr (w := cx.w0) (Ro := cx.Ro) (sz := z.size) (i := off + n.toNat) (k := 0) hM
            rw [Nat.add_zero, Nat.add_mul, ← Nat.add_assoc] at this
            exact this
  · exact h.elim
end Go.Proofs.Ytniibpihbopehaa.M

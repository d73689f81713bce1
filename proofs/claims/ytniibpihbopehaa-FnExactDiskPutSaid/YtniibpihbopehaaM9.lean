/- 'qwp' is right, all together; and more boxes do not turn it. -/
import Derived.Test.YtniibpihbopehaaM8
namespace Go.Proofs.Ytniibpihbopehaa.M
open Go Go.RowKit
set_option linter.unusedVariables false
set_option linter.unusedSimpArgs false
variable {cx : Cx} {M : Mp} {st : St} {a : Act} {w : World} {G : Pg} {K : V → Prop} {o : Oper} {C : World → Prop}
theorem tells_easy (R : Rel cx M st a w) (x : Operand) (hx : o.op = .move x ∨ o.op = .assign x) (h : K (ev st.T x)) : Tells G cx C M a w o K :=
  ⟨_, a.eval x, h, fun w' _ => by rcases hx with hx | hx <;> simp [execOp, hx], R.ev_ x⟩
theorem tells_pick (R : Rel cx M st a w) (c x y : Operand) (ho : o.op = .pick c x y) (h : qwp G.tt st.T st.B (.pick c x y) K) : Tells G cx C M a w o K := by
  simp only [qwp, chk_iff, decide_eq_true_eq, Bool.or_eq_true, Option.isNone_iff_eq_none, Array.isEmpty_iff, Bool.not_eq_true', Bool.and_eq_true] at h
  have hc := R.ev_ c
  have hx := R.ev_ x
  have hy := R.ev_ y
  generalize ev st.T c = ec at h hc
  split at h
  · rename_i t
    have e1 := hc.lit_
    have run : ∀ w', C w' → (execOp a.eval o).run G.P w' = .ok (.value (if t = true then a.eval x else a.eval y)) w' := by intro w' _; simp [execOp, ho, e1, asBool]
    have h := iteB_get h
    cases t
    · exact ⟨_, _, h.2 rfl, run, by simpa using hy⟩
    · exact ⟨_, _, h.1 rfl, run, by simpa using hx⟩
  · exact h.elim
theorem tells_nilCheck (R : Rel cx M st a w) (x : Operand) (ho : o.op = .nilCheck x) (h : qwp G.tt st.T st.B (.nilCheck x) K) : Tells G cx C M a w o K := by
  simp only [qwp, chk_iff, decide_eq_true_eq, Bool.or_eq_true, Option.isNone_iff_eq_none, Array.isEmpty_iff, Bool.not_eq_true', Bool.and_eq_true] at h
  have hx := R.ev_ x
  generalize ev st.T x = e at h hx
  generalize hg : a.eval x = g at hx
  split at h
  · have hx2 := hx
    cases hx with
    | ptr hM => exact ⟨_, _, h, fun w' _ => by simp [execOp, ho, hg], hx2⟩
  · have hx2 := hx
    cases hx with
    | pro hM => exact ⟨_, _, h, fun w' _ => by simp [execOp, ho, hg], hx2⟩
  · have hx2 := hx
    cases hx with
    | fn hM => exact ⟨_, _, h, fun w' _ => by simp [execOp, ho, hg], hx2⟩
  · have := hx.lit_
    subst this
    exact ⟨_, _, h, fun w' _ => by simp [execOp, ho, hg], hx⟩
  · exact h.elim
theorem tells_unOp (R : Rel cx M st a w) (op : UnOp) (t : Nat) (x : Operand) (ho : o.op = .unOp op t x) (h : qwp G.tt st.T st.B (.unOp op t x) K) : Tells G cx C M a w o K := by
  simp only [qwp, chk_iff, decide_eq_true_eq, Bool.or_eq_true, Option.isNone_iff_eq_none, Array.isEmpty_iff, Bool.not_eq_true', Bool.and_eq_true] at h
  have hx := R.ev_ x
  generalize ev st.T x = e at h hx
  split at h
  · have e1 := hx.lit_
    exact ⟨_, _, h, fun w' _ => by simp [execOp, ho, e1, Op.unary], .lit _⟩
  · have e1 := hx.lit_
    exact ⟨_, _, h, fun w' _ => by simp [execOp, ho, e1, Op.unary, Op.intArith], .lit _⟩
  · exact h.elim
theorem tells_makeFunc (R : Rel cx M st a w) (f : FuncId) (first cap : Array Operand) (ho : o.op = .makeFunc (.func f) first cap) (h : qwp G.tt st.T st.B (.makeFunc (.func f) first cap) K) : Tells G cx C M a w o K := by
  simp only [qwp, chk_iff, decide_eq_true_eq, Bool.or_eq_true, Option.isNone_iff_eq_none, Array.isEmpty_iff, Bool.not_eq_true', Bool.and_eq_true] at h
  obtain ⟨rfl, h⟩ := h
  refine ⟨_, _, h, fun w' _ => by simp [execOp, ho, Instr.makeFunc]; rfl, .fn (by simp) (fun k v u hv hu => ?_)⟩
  simp only [List.getElem?_map, Array.getElem?_toList, Array.getElem?_map, Option.map_eq_some_iff] at hv hu
  obtain ⟨x, hx, rfl⟩ := hv
  obtain ⟨x', hx', rfl⟩ := hu
  rw [hx] at hx'; cases hx'
  exact R.ev_ _
theorem tells_extract (R : Rel cx M st a w) (x : Operand) (i : Nat) (ho : o.op = .extract x i) (h : qwp G.tt st.T st.B (.extract x i) K) : Tells G cx C M a w o K := by
  simp only [qwp, chk_iff, decide_eq_true_eq, Bool.or_eq_true, Option.isNone_iff_eq_none, Array.isEmpty_iff, Bool.not_eq_true', Bool.and_eq_true] at h
  have hx := R.ev_ x
  generalize ev st.T x = e at h hx
  generalize hg : a.eval x = g at hx
  split at h
  · rename_i vs
    cases hx with
    | @tup _ us hl hus =>
      cases hv : vs[i]? with
      | none => rw [hv] at h; exact h.elim
      | some v =>
        rw [hv] at h
        have hlt : i < us.size := by have := (List.getElem?_eq_some_iff.1 hv).1; omega
        exact ⟨_, us[i], h, fun w' _ => by simp [execOp, ho, hg, Instr.extract, hlt], hus i v _ hv (Array.getElem?_eq_getElem hlt)⟩
  · exact h.elim
theorem tells_two (R : Rel cx M st a w) (c : Call) (ho : o.op = .call c) (b : Builtin) (hc : c.callee = .builtin b) (F : Int → Int → Int) (hF : ∀ t k n k' m, ∀ w, (builtin b t o.type (c.args.map fun | .const _ => true | _ => false) #[.int k n, .int k' m]).run G.P w = .ok (.value (.int k (F n m))) w)
    (h : match c.args.toList.map (ev st.T) with | [.lit (.int k n), .lit (.int k' m)] => K (.lit (.int k (F n m))) | _ => False) : Tells G cx C M a w o K := by
  obtain ⟨callee, args, types⟩ := c
  simp only at hc h
  subst hc
  obtain ⟨l⟩ := args
  have inv : ∀ (x : Operand) (k : IntKind) (n : Int), ev st.T x = .lit (.int k n) → a.eval x = .int k n := by
    intro x k n hx
    have := R.ev_ x
    rw [hx] at this
    exact this.lit_
  split at h
  · rename_i k n k' m he
    rcases l with _ | ⟨x, _ | ⟨y, _ | ⟨z, l⟩⟩⟩
    · simp at he
    · simp at he
    · simp only [List.map_cons, List.map_nil, List.cons.injEq, and_true] at he
      have e1 := inv _ _ _ he.1
      have e2 := inv _ _ _ he.2
      refine ⟨_, _, h, ?_, .lit _⟩
      intro w' _
      have := hF types k n k' m w'
      simp only [execOp, ho, resolve, invoke, Sem.run_bind, Sem.run_pure, Result.andThen_ok, List.map_toArray, List.map_cons, List.map_nil, e1, e2] at this ⊢
      exact this
    · simp at he
  · exact h.elim
def notLoad : Op → Bool
  | .load _ _ => false
  | _ => true
theorem qwp_soundC (R : Rel cx M st a w) (hC : notLoad o.op = true ∨ ∀ w', C w' → Ks st.B M w w') (h : qwp G.tt st.T st.B o.op K) : Tells G cx C M a w o K := by
  cases ho : o.op <;> rw [ho] at h
  case move x => exact tells_easy R x (.inl ho) h
  case assign x => exact tells_easy R x (.inr ho) h
  case pick => exact tells_pick R _ _ _ ho h
  case load =>
    rcases hC with hC | hC
    · rw [ho] at hC; cases hC
    · obtain ⟨v, u, h1, h2, h3⟩ := tells_load R _ _ ho h
      exact ⟨v, u, h1, fun w' hw => h2 w' (hC w' hw), h3⟩
  case nilCheck => exact tells_nilCheck R _ ho h
  case fieldAddr => exact tells_fieldAddr R _ _ _ ho h
  case field => exact tells_field R _ _ _ ho h
  case indexAddr => exact tells_indexAddr R _ _ _ ho h
  case index => exact tells_index R _ _ _ ho h
  case slice => exact tells_slice R _ _ _ _ _ ho h
  case binOp => exact tells_binOp R _ _ _ _ _ ho h
  case unOp => exact tells_unOp R _ _ _ ho h
  case convert => exact tells_convert R _ _ _ ho h
  case extract => exact tells_extract R _ _ ho h
  case build => exact tells_build R _ _ ho h
  case makeFunc fn first cap => cases fn <;> first | exact tells_makeFunc R _ _ _ ho h | exact h.elim
  case call c =>
    cases hc : c.callee with
    | value f => simp only [qwp, hc, chk_iff, decide_eq_true_eq, Bool.or_eq_true, Option.isNone_iff_eq_none, Array.isEmpty_iff, Bool.not_eq_true', Bool.and_eq_true] at h
    | invoke r m => simp only [qwp, hc, chk_iff, decide_eq_true_eq, Bool.or_eq_true, Option.isNone_iff_eq_none, Array.isEmpty_iff, Bool.not_eq_true', Bool.and_eq_true] at h
    | builtin b =>
      cases b <;> first
        | exact tells_len R c ho hc h
        | (simp only [qwp, hc, chk_iff, decide_eq_true_eq, Bool.or_eq_true, Option.isNone_iff_eq_none, Array.isEmpty_iff, Bool.not_eq_true', Bool.and_eq_true] at h; exact tells_two R c ho _ hc (fun n m => if m < n then m else n) (fun t k n k' m w => by simp [builtin, run_min_int2]) h)
        | (simp only [qwp, hc, chk_iff, decide_eq_true_eq, Bool.or_eq_true, Option.isNone_iff_eq_none, Array.isEmpty_iff, Bool.not_eq_true', Bool.and_eq_true] at h; exact tells_two R c ho _ hc (fun n m => if n < m then m else n) (fun t k n k' m w => by simp [builtin, run_max_int2]) h)
        | (simp only [qwp, hc, chk_iff, decide_eq_true_eq, Bool.or_eq_true, Option.isNone_iff_eq_none, Array.isEmpty_iff, Bool.not_eq_true', Bool.and_eq_true] at h)
  all_goals exact h.elim
theorem qwp_soundS (R : Rel cx M st a w) (h : qwp G.tt st.T st.B o.op K) : Tells G cx (Ks st.B M w) M a w o K := qwp_soundC R (.inr fun _ h => h) h
theorem qwp_sound (R : Rel cx M st a w) (h : qwp G.tt st.T st.B o.op K) : ∃ v u, K v ∧ (∀ w', Sm w w' → (execOp a.eval o).run G.P w' = .ok (.value u) w') ∧ VR M cx.w0 cx.Ro v u := by
  obtain ⟨v, u, h1, h2, h3⟩ := qwp_soundS R h
  exact ⟨v, u, h1, fun w' hs => h2 w' hs.weak, h3⟩
theorem bnds_mono {lo hi mx : Option V} {len : Int} {k k' : Int → Int → Prop} (h : bnds lo hi mx len k) (hk : ∀ l m, k l m → k' l m) : bnds lo hi mx len k' := by
  unfold bnds at h ⊢
  simp only [chk_iff] at h ⊢
  split at h
  · exact ⟨h.1, h.2.1, h.2.2.1, h.2.2.2.1, h.2.2.2.2.1, hk _ _ h.2.2.2.2.2⟩
  · exact h.elim
theorem lenV_mono {v : V} {k k' : Int → Prop} (h : lenV k v) (hk : ∀ l, k l → k' l) : lenV k' v := by
  unfold lenV at h ⊢
  split at h <;> first | exact hk _ h | exact h.elim
theorem setParts_mono {tt : Nat → Option Ty} {flds : List (Nat × Nat)} {K K' : List V → Prop} (hk : ∀ l, K l → K' l) : ∀ (parts : List (Nat × V)) (cs : List V), setParts tt flds cs parts K → setParts tt flds cs parts K' := by
  intro parts
  induction parts with
  | nil => intro cs h; exact hk _ h
  | cons p parts ih =>
    intro cs h
    obtain ⟨i, v⟩ := p
    simp only [setParts, chk_iff] at h ⊢
    split at h
    · exact h.elim
    · split at h
      · exact h.elim
      · exact ⟨h.1, h.2.1, h.2.2.1, ih _ h.2.2.2⟩
/-- More boxes, the same slots: the same is told. -/
def BLe (B B' : Bs) : Prop := ∀ b x, B b = some x → B' b = some x
theorem BLe.rows {B B' : Bs} (h : BLe B B') {b : Nat} {q : Path} {p : Bool × Nat × Row} (hp : rowsAt B b q = some p) : rowsAt B' b q = some p := by
  unfold rowsAt at hp ⊢
  cases hb : B b with
  | none => rw [hb] at hp; cases hp
  | some x => rw [hb] at hp; rw [h b x hb]; exact hp
end Go.Proofs.Ytniibpihbopehaa.M

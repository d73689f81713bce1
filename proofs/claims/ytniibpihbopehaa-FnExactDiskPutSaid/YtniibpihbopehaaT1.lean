/- Regions that draw their order and in which new memory is made: what only tells may be taken first. -/
import Derived.Test.YtniibpihbopehaaT0
namespace Go.Proofs.Ytniibpihbopehaa.M
open Go Go.RowKit
set_option linter.unusedVariables false
set_option linter.unusedSimpArgs false
variable {P : Program} {ops : Array Oper} {md : Region.Mode} {C C' : World → Prop}
/-- What is asked of an operation that leaves a world of the class. -/
def runsUpon (P : Program) (o : Oper) (a : Act) (C : World → Prop) (K : Act → World → Prop) : Result Next → Prop
  | .ok (.value u) w' => C w' ∧ K (a.put o.dst u) w'
  | .ok .skip w' => C w' ∧ K (a.put o.dst undef) w'
  | .ok (.enter f args) w' => Calls P f args w' fun e w'' => ∃ u, e = .returned u ∧ C w'' ∧ K (a.put o.dst u) w''
  | _ => False
def runs (P : Program) (o : Oper) (a : Act) (w : World) (C : World → Prop) (K : Act → World → Prop) : Prop := runsUpon P o a C K ((execOp a.eval o).run P w)
theorem runs_mono {o : Oper} {a : Act} {w : World} {K K' : Act → World → Prop} (h : ∀ u w', C w' → K (a.put o.dst u) w' → C' w' ∧ K' (a.put o.dst u) w') (hh : runs P o a w C K) : runs P o a w C' K' := by
  unfold runs at *
  generalize (execOp a.eval o).run P w = r at *
  cases r with
  | ok n w' =>
    cases n <;> simp only [runsUpon] at hh ⊢
    · exact h _ _ hh.1 hh.2
    · exact h _ _ hh.1 hh.2
    · exact hh.mono fun e w'' ⟨u, he, hc, hk⟩ => ⟨u, he, (h u w'' hc hk).1, (h u w'' hc hk).2⟩
  | halt x w' => simp only [runsUpon] at hh
theorem wp_of_runs {o : Oper} {a : Act} {w : World} {K K' : Act → World → Prop} {Q : Exit → Act → World → Prop} (h : ∀ a w, C w → K a w → K' a w) (hh : runs P o a w C K) : o.wp P a w K' Q := by
  unfold runs at hh
  unfold Oper.wp
  generalize (execOp a.eval o).run P w = r at *
  cases r with
  | ok n w' =>
    cases n <;> simp only [runsUpon] at hh <;> simp only [Oper.upon]
    · exact h _ _ hh.1 hh.2
    · exact h _ _ hh.1 hh.2
    · exact hh.mono fun e w'' ⟨u, he, hc, hk⟩ => by subst he; exact h _ _ hc hk
  | halt x w' => simp only [runsUpon] at hh
/-- An operation that tells v, in every world of the class, and leaves it as it is. -/
def YieldsS (P : Program) (ops : Array Oper) (C : World → Prop) (o : Oper) (v : Value) (a : Act) : Prop :=
  (Region.wanted o (yielded ops a.tmps) = true ∧ ∀ w, C w → (execOp a.eval o).run P w = .ok (.value v) w) ∨
  (Region.wanted o (yielded ops a.tmps) = false ∧ v = undef)
theorem YieldsS.of_same {o : Oper} {v : Value} {a a' : Act} (hy : YieldsS P ops C o v a) (he : execOp a'.eval o = execOp a.eval o)
    (hw : Region.wanted o (yielded ops a'.tmps) = Region.wanted o (yielded ops a.tmps)) : YieldsS P ops C o v a' := by
  unfold YieldsS at *
  rw [he, hw]
  exact hy
/-- Operation number i. -/
def mOp (P : Program) (ops : Array Oper) (C : World → Prop) (i : Nat) (K : Act → World → Prop) (a : Act) (w : World) : Prop := match ops[i]? with
  | none => K a w
  | some o => if Region.wanted o (yielded ops a.tmps) then runs P o a w C K else K (a.put o.dst undef) w
theorem mOp_mono {i : Nat} {a : Act} {w : World} {K K' : Act → World → Prop} (hC : ∀ w, C w → C' w) (h : ∀ a w, K a w → K' a w) (hh : mOp P ops C i K a w) : mOp P ops C' i K' a w := by
  unfold mOp at *
  split
  · exact h _ _ (by simpa [*] using hh)
  · rename_i o ho
    simp only [ho] at hh
    split
    · rename_i hw; simp only [hw, if_true] at hh; exact runs_mono (fun u w' hc hk => ⟨hC _ hc, h _ _ hk⟩) hh
    · rename_i hw; simp only [hw] at hh; exact h _ _ hh
theorem mOp_put {j : Nat} {oi oj : Oper} {v : Value} (hj : ops[j]? = some oj) (hap : oi.apart ops oj = true)
    (hsi : ∀ cs b, oi.op ≠ .select cs b) (hsj : ∀ cs b, oj.op ≠ .select cs b) {K : Act → World → Prop} {a : Act} {w : World} (hw0 : C w)
    (hy : YieldsS P ops C oi v a) (h : mOp P ops C j K (a.put oi.dst v) w) :
    mOp P ops C j (fun a' w' => C w' ∧ YieldsS P ops C oi v a' ∧ K (a'.put oi.dst v) w') a w := by
  obtain ⟨h1, h2, h3⟩ := Oper.apart_spec hap
  have keep : ∀ (a : Act), YieldsS P ops C oi v a → ∀ u, YieldsS P ops C oi v (a.put oj.dst u) := fun a hy u =>
    hy.of_same (execOp_put oi hsi a oj.dst u h3) (wanted_put oi a oj.dst u h3)
  have sw : ∀ u, (a.put oi.dst v).put oj.dst u = (a.put oj.dst u).put oi.dst v := fun u => Act.put_comm a v u h2
  unfold mOp at *
  simp only [hj] at *
  rw [wanted_put oj a oi.dst v h1] at h
  split
  · rename_i hw
    simp only [hw, if_true] at h
    unfold runs at *
    rw [execOp_put oj hsj a oi.dst v h1] at h
    generalize (execOp a.eval oj).run P w = r at *
    cases r with
    | ok n w' =>
      cases n <;> simp only [runsUpon] at h ⊢
      · exact ⟨h.1, h.1, keep a hy _, by rw [← sw]; exact h.2⟩
      · exact ⟨h.1, h.1, keep a hy _, by rw [← sw]; exact h.2⟩
      · exact h.mono fun e w'' ⟨u, he, hc, hk⟩ => ⟨u, he, hc, hc, keep a hy _, by rw [← sw]; exact hk⟩
    | halt x w' => simp only [runsUpon] at h
  · rename_i hw
    simp only [hw] at h
    exact ⟨hw0, keep a hy _, by rw [← sw]; exact h⟩
/-- Whatever order is picked: those below t leave a world of the class; behind them all is as it comes. -/
def wpAnyT (P : Program) (md : Region.Mode) (ops : Array Oper) (C : World → Prop) (Q : Exit → Act → World → Prop) (t : Nat) : Nat → Array Bool → Act → World → Prop
  | 0, listed, a, w => Region.ready md ops listed = [] ∧ Q .normal a w
  | fuel + 1, listed, a, w =>
    (Region.ready md ops listed = [] → Q .normal a w) ∧
    ∀ i ∈ Region.ready md ops listed, (i < t → mOp P ops C i (wpAnyT P md ops C Q t fuel (listed.setIfInBounds i true)) a w) ∧ (t ≤ i → wpOp P ops Q i (wpAny P md ops Q fuel (listed.setIfInBounds i true)) a w)
theorem wpAnyT_class {Q : Exit → Act → World → Prop} {t : Nat} (hC : ∀ w, C w → C' w) : ∀ (fuel : Nat) (listed : Array Bool) (a : Act) (w : World), wpAnyT P md ops C Q t fuel listed a w → wpAnyT P md ops C' Q t fuel listed a w
  | 0, _, _, _, h => h
  | fuel + 1, _, _, _, h => ⟨h.1, fun i hi => ⟨fun ht => mOp_mono hC (fun a w => wpAnyT_class hC fuel _ a w) ((h.2 i hi).1 ht), (h.2 i hi).2⟩⟩
theorem wpAny_of_T {Q : Exit → Act → World → Prop} {t : Nat} : ∀ (fuel : Nat) (listed : Array Bool) (a : Act) (w : World), wpAnyT P md ops C Q t fuel listed a w → wpAny P md ops Q fuel listed a w
  | 0, _, _, _, h => h
  | fuel + 1, _, a, w, h => ⟨h.1, fun i hi => by
    rcases Nat.lt_or_ge i t with ht | ht
    · have h2 := (h.2 i hi).1 ht
      unfold mOp at h2
      unfold wpOp
      split
      · rename_i ho; simp only [ho] at h2; exact wpAny_of_T fuel _ _ _ h2
      · rename_i o ho
        simp only [ho] at h2
        split
        · rename_i hw; simp only [hw, if_true] at h2; exact .inl (wp_of_runs (fun a w _ hk => wpAny_of_T fuel _ a w hk) h2)
        · rename_i hw; simp only [hw] at h2; exact wpAny_of_T fuel _ _ _ h2
    · exact (h.2 i hi).2 ht⟩
/-- Whether j waits for i, by whatever stands between. -/
def needs (md : Region.Mode) (ops : Array Oper) : Nat → Nat → Nat → Bool
  | 0, _, _ => false
  | n + 1, j, i => match ops[j]? with
    | some o => o.after.any (fun e => Region.binds md e && e.on == i) || o.after.any (fun e => Region.binds md e && (decide (i < e.on) && needs md ops n e.on i))
    | none => false
/-- What is listed has all listed that it waits for. -/
def Down (md : Region.Mode) (ops : Array Oper) (listed : Array Bool) : Prop := ∀ k o, ops[k]? = some o → listed.getD k false = true → ∀ e ∈ o.after, Region.binds md e = true → listed.getD e.on false = true
theorem needs_ok {listed : Array Bool} (hd : Down md ops listed) {i : Nat} : ∀ (n j : Nat) (o : Oper), ops[j]? = some o → (∀ e ∈ o.after, Region.binds md e = true → listed.getD e.on false = true) → needs md ops n j i = true → listed.getD i false = true := by
  intro n
  induction n with
  | zero => intro j o _ _ h; cases h
  | succ n ih =>
    intro j o ho hall h
    simp only [needs, ho, Bool.or_eq_true] at h
    rcases h with h | h
    · obtain ⟨e, he, hb⟩ := Array.any_eq_true'.1 h
      simp only [Bool.and_eq_true, beq_iff_eq] at hb
      rw [← hb.2]
      exact hall e he hb.1
    · obtain ⟨e, he, hb⟩ := Array.any_eq_true'.1 h
      simp only [Bool.and_eq_true] at hb
      obtain ⟨h1, _, h2⟩ := hb
      have h3 := hall e he h1
      cases ho' : ops[e.on]? with
      | none =>
        cases n with
        | zero => cases h2
        | succ n => simp [needs, ho'] at h2
      | some o' => exact ih e.on o' ho' (hd e.on o' ho' h3) h2
theorem down_set {listed : Array Bool} (hd : Down md ops listed) {j : Nat} (hj : j ∈ Region.ready md ops listed) : Down md ops (listed.setIfInBounds j true) := by
  obtain ⟨_, oj, hoj, hall⟩ := mem_ready.1 hj
  intro k o hk hl e he hb
  by_cases e1 : j = k
  · subst e1
    rw [hoj] at hk; cases hk
    exact getD_set_true (hall e he hb)
  · rw [getD_set_ne false e1] at hl
    exact getD_set_true (hd k o hk hl e he hb)
theorem down_start (md : Region.Mode) (ops : Array Oper) (n : Nat) : Down md ops (Array.replicate n false) := by
  intro k o _ hl
  rw [Array.getD_eq_getD_getElem?, Array.getElem?_replicate] at hl
  split at hl <;> cases hl
/-- What only tells may be taken first. -/
theorem wpAnyT_first {Q : Exit → Act → World → Prop} {t i : Nat} {oi : Oper} {v : Value} (hi : ops[i]? = some oi) (hit : i < t) (hsel : ∀ (j : Nat) (o : Oper) cs b, ops[j]? = some o → o.op ≠ .select cs b)
    (htail : ∀ j o, t ≤ j → ops[j]? = some o → needs md ops ops.size j i = true) :
    ∀ (fuel : Nat) (listed : Array Bool) (a : Act) (w : World), Down md ops listed → C w →
      (∀ j oj, ops[j]? = some oj → j ≠ i → listed.getD j true = false → (∀ e ∈ oj.after, Region.binds md e = true → e.on ≠ i) → oi.apart ops oj = true) →
      i ∈ Region.ready md ops listed → YieldsS P ops C oi v a →
      wpAnyT P md ops C Q t fuel (listed.setIfInBounds i true) (a.put oi.dst v) w → wpAnyT P md ops C Q t (fuel + 1) listed a w := by
  have take : ∀ {K : Act → World → Prop} {a : Act} {w : World}, C w → YieldsS P ops C oi v a → K (a.put oi.dst v) w → mOp P ops C i K a w := by
    intro K a w hw hy hK
    unfold mOp
    simp only [hi]
    rcases hy with ⟨hwt, hv⟩ | ⟨hwt, rfl⟩
    · rw [if_pos hwt]
      have := hv w hw
      unfold runs
      rw [this]
      exact ⟨hw, hK⟩
    · rw [if_neg (by simp [hwt])]; exact hK
  intro fuel
  induction fuel with
  | zero =>
    intro listed a w hdn hw _ hr hy H
    refine ⟨fun h => (by rw [h] at hr; cases hr), fun j hj => ?_⟩
    by_cases hji : j = i
    · subst hji; exact ⟨fun _ => take hw hy H, fun h => absurd hit (Nat.not_lt.2 h)⟩
    · have := ready_mono hj hji
      rw [H.1] at this
      cases this
  | succ fuel ih =>
    intro listed a w hdn hw hfree hr hy H
    refine ⟨fun h => (by rw [h] at hr; cases hr), fun j hj => ?_⟩
    by_cases hji : j = i
    · subst hji; exact ⟨fun _ => take hw hy H, fun h => absurd hit (Nat.not_lt.2 h)⟩
    · obtain ⟨hjun, oj, hoj, hall⟩ := mem_ready.1 hj
      have hnot : ∀ e ∈ oj.after, Region.binds md e = true → e.on ≠ i := fun e he hb heq => by
        have h1 := hall e he hb
        have h0 := (mem_ready.1 hr).1
        rw [heq] at h1
        rcases Nat.lt_or_ge i listed.size with h' | h'
        · simp [h'] at h0 h1; rw [h0] at h1; cases h1
        · simp [Array.getElem?_eq_none h'] at h1
      refine ⟨fun hjt => ?_, fun hjt => ?_⟩
      · have h1 := (H.2 j (ready_mono hj hji)).1 hjt
        have h2 := mOp_put hoj (hfree j oj hoj hji hjun hnot) (fun cs b => hsel i oi cs b hi) (fun cs b => hsel j oj cs b hoj) hw hy h1
        have hfree' : ∀ k ok, ops[k]? = some ok → k ≠ i → (listed.setIfInBounds j true).getD k true = false →
            (∀ e ∈ ok.after, Region.binds md e = true → e.on ≠ i) → oi.apart ops ok = true := fun k ok hk hki hun hno => by
          refine hfree k ok hk hki ?_ hno
          by_cases hjk : j = k
          · subst hjk; exact hjun
          · rw [getD_set_ne true hjk] at hun; exact hun
        refine mOp_mono (fun _ h => h) (fun a' w' h3 => ih (listed.setIfInBounds j true) a' w' (down_set hdn hj) h3.1 hfree' (ready_mono hr (Ne.symm hji)) h3.2.1 ?_) h2
        rw [Array.setIfInBounds_comm _ _ hji]
        exact h3.2.2
      · have h1 := needs_ok hdn _ j oj hoj hall (htail j oj hjt hoj)
        have h0 := (mem_ready.1 hr).1
        rw [Array.getD_eq_getD_getElem?] at h0 h1
        cases hx : listed[i]? with
        | none => rw [hx] at h1; cases h1
        | some b => rw [hx] at h0 h1; rw [Option.getD_some] at h0 h1; rw [h0] at h1; cases h1
/-- An order to walk in: what only tells (true), or what alone is ready (false); behind t in line. -/
def tailGo (md : Region.Mode) (ops : Array Oper) : Nat → Nat → Array Bool → Bool
  | 0, _, listed => (Region.ready md ops listed).isEmpty
  | n + 1, k, listed => (Region.ready md ops listed == [k]) && tailGo md ops n (k + 1) (listed.setIfInBounds k true)
def schedGo (md : Region.Mode) (ops : Array Oper) (t : Nat) : List (Nat × Bool) → Array Bool → Bool
  | [], listed => tailGo md ops (ops.size - t) t listed
  | (i, fl) :: r, listed => decide (i < t) && (match fl with
    | true => (Region.ready md ops listed).contains i && Region.free md ops listed i
    | false => Region.ready md ops listed == [i]) && schedGo md ops t r (listed.setIfInBounds i true)
def waitB (md : Region.Mode) (ops : Array Oper) (t : Nat) : Bool := (List.range ops.size).all fun j => decide (j < t) || (List.range t).all fun i => needs md ops ops.size j i
theorem waitB_spec {t : Nat} (h : waitB md ops t = true) {i : Nat} (hi : i < t) : ∀ j o, t ≤ j → ops[j]? = some o → needs md ops ops.size j i = true := by
  intro j o hj ho
  have hlt : j < ops.size := (Array.getElem?_eq_some_iff.1 ho).1
  have h1 := List.all_eq_true.1 h j (List.mem_range.2 hlt)
  simp only [show decide (j < t) = false from decide_eq_false (by omega), Bool.false_or] at h1
  exact List.all_eq_true.1 h1 i (List.mem_range.2 hi)
def schedB (md : Region.Mode) (ops : Array Oper) (t : Nat) (s : List (Nat × Bool)) : Bool :=
  Region.noSelect ops && waitB md ops t && decide (t ≤ ops.size) && decide (s.length + (ops.size - t) = ops.size) && schedGo md ops t s (Array.replicate ops.size false)
/-- An order to walk in where two may be ready at once: what only tells; what alone is ready; either of two. -/
inductive Sch where
  | nil
  | tell (i : Nat) (r : Sch)
  | one (i : Nat) (r : Sch)
  | two (i j : Nat) (r s : Sch)
  | three (i j k : Nat) (r s u : Sch)
def Sch.len : Sch → Nat
  | .nil => 0
  | .tell _ r => r.len + 1
  | .one _ r => r.len + 1
  | .two _ _ r _ => r.len + 1
  | .three _ _ _ r _ _ => r.len + 1
def Sch.go (md : Region.Mode) (ops : Array Oper) (t : Nat) : Sch → Array Bool → Bool
  | .nil, listed => tailGo md ops (ops.size - t) t listed
  | .tell i r, listed => decide (i < t) && ((Region.ready md ops listed).contains i && Region.free md ops listed i) && r.go md ops t (listed.setIfInBounds i true)
  | .one i r, listed => decide (i < t) && (Region.ready md ops listed == [i]) && r.go md ops t (listed.setIfInBounds i true)
  | .two i j r s, listed => decide (i < t) && decide (j < t) && (Region.ready md ops listed == [i, j]) && decide (r.len = s.len) && r.go md ops t (listed.setIfInBounds i true) && s.go md ops t (listed.setIfInBounds j true)
  | .three i j k r s u, listed => decide (i < t) && decide (j < t) && decide (k < t) && (Region.ready md ops listed == [i, j, k]) && decide (r.len = s.len) && decide (r.len = u.len) && r.go md ops t (listed.setIfInBounds i true) && s.go md ops t (listed.setIfInBounds j true) && u.go md ops t (listed.setIfInBounds k true)
def schedT (md : Region.Mode) (ops : Array Oper) (t : Nat) (s : Sch) : Bool :=
  Region.noSelect ops && waitB md ops t && decide (t ≤ ops.size) && decide (s.len + (ops.size - t) = ops.size) && s.go md ops t (Array.replicate ops.size false)
end Go.Proofs.Ytniibpihbopehaa.M

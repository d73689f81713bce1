/- One operation. -/
import Derived.Test.YtniibpihbopehaaO9a
namespace Go.Proofs.Ytniibpihbopehaa.M
open Go Go.RowKit
set_option linter.unusedVariables false
set_option linter.unusedSimpArgs false
variable {cx : Cx} {M M' : Mp} {st : St} {a : Act} {w w' : World} {G : Pg} {p : Nat → Path → Bool}
/-- A value, reckoned out so far that its form is seen. -/
def forceS (st : St) (K : St → Prop) : Prop := match st with
  | ⟨T, B⟩ => K ⟨T, B⟩
theorem forceS_eq (st : St) (K : St → Prop) : forceS st K = K st := rfl
def putK (dst : Option Nat) (st : St) (v : V) (K : St → Prop) : Prop := match dst with
  | some d => (match st with | ⟨T, B⟩ => K ⟨upd T d v, B⟩)
  | none => K st
theorem putK_eq (dst : Option Nat) (st : St) (v : V) (K : St → Prop) : putK dst st v K = (match dst with | some d => K { T := upd st.T d v, B := st.B } | none => K st) := by cases dst <;> rfl
def valK (dst : Option Nat) (st : St) (K : St → Prop) (v : V) : Prop := force v fun v => putK dst st v K
def unbyR : Row → List UInt8
  | [] => []
  | x :: r => byteOf1 x :: unbyR r
theorem unbyR_byR (l : List UInt8) : unbyR (byR l) = l := by
  induction l with
  | nil => rfl
  | cons b l ih =>
    show byteOf1 [.lit (.int .u8 (b.toNat : Int))] :: unbyR (byR l) = b :: l
    rw [ih]
    congr 1
    simp [byteOf1]
/-- A call, by whatever way it is taken in. -/
def callw (G : Pg) (st : St) (f : Nat) (args : List V) (o : Option Nat) (K : St → Prop) : Prop := callV G st f args o K ∨ callR G st f args o K ∨ callG G st f args o K
def convw (G : Pg) (dst : Option Nat) (s t : Nat) (x : Operand) (st : St) (K : St → Prop) : Prop :=
  match ev st.T x with
  | .lit (.string u) => (match G.tt s, G.tt t with
    | some y, some z => (match z.sl with
      | some e => (match G.tt e, dst with
        | some ye, some d => chk y.str (chk (decide (ye.ik = some .u8)) (u.size ≤ 140737488355328 ∧ K { T := upd (fun t => kill (boxIs (1000 + d)) (st.T t)) d (.sl (1000 + d) [] 1 0 u.size), B := upd (killB (boxIs (1000 + d)) st.B) (1000 + d) (some (false, 1, byR u.data.toList)) }))
        | _, _ => False)
      | none => qwp G.tt st.T st.B (.convert s t x) (valK dst st K))
    | _, _ => False)
  | .lit (.slice none 0 0) => (match G.tt s, G.tt t with
    | some y, some z => (match y.sl with
      | some e => (match G.tt e with
        | some ye => chk (decide (ye.ik = some .u8)) (chk z.str (valK dst st K (.lit (.string ⟨#[]⟩))))
        | none => False)
      | none => False)
    | _, _ => False)
  | .lit u => qwp G.tt st.T st.B (.convert s t x) (valK dst st K)
  | v => (match G.tt s, G.tt t with
    | some y, some z => (match y.sl with
      | some e => (match G.tt e with
        | some ye => chk (decide (ye.ik = some .u8)) (chk z.str (rowV st.B (fun sz xs => chk (decide (sz = 1)) (xs = byR (unbyR xs) ∧ valK dst st K (.lit (.string ⟨(unbyR xs).toArray⟩)))) v))
        | none => False)
      | none => False)
    | _, _ => False)
/-- nil, in a slot: a box of nothing. -/
def nilw (G : Pg) (o : Oper) (st : St) (K : St → Prop) : Prop := match o.dst, G.tt o.type with
  | some d, some y => (match y.sl with
    | some e => (match G.tt e with
      | some y' => K { T := upd (fun t => kill (oneOf (1000 + d) none) (st.T t)) d (.sl (1000 + d) [] y'.size 0 0), B := upd (killB (oneOf (1000 + d) none) st.B) (1000 + d) (some (false, y'.size, [])) }
      | none => False)
    | none => K { T := upd st.T d (.lit (.slice none 0 0)), B := st.B })
  | _, _ => False
def opw (G : Pg) (o : Oper) (st : St) (K : St → Prop) : Prop :=
  match o.op with
  | .assign (.const (.slice none 0 0)) => nilw G o st K
  | .store t x v => chk o.dst.isNone (storew G.tt st t (ev st.T x) (ev st.T v) K)
  | .box t x => (match o.dst with
    | some d => boxw G.tt st (1000 + d) t (ev st.T x) fun st' v => K { T := upd st'.T d v, B := st'.B }
    | none => False)
  | .alloc t => (match o.dst, G.tt t with
    | some d, some y => K { T := upd (fun t => kill (boxIs (1000 + d)) (st.T t)) d (.ptr (1000 + d) [] y.size 0 0), B := upd (killB (boxIs (1000 + d)) st.B) (1000 + d) (some (true, y.size, [y.zero])) }
    | _, _ => False)
  | .buildSlice t len parts => (match o.dst with
    | some d => bslw G.tt st (1000 + d) t len parts.toList fun st' v => K { T := upd st'.T d v, B := st'.B }
    | none => False)
  | .makeSlice t l c => (match o.dst, G.tt t, ev st.T l, ev st.T c with
    | some d, some y, .lit (.int _ n), .lit (.int _ m) => (match y.sl with
      | some e => (match G.tt e with
        | some y' => m = n ∧ 0 ≤ n ∧ y'.bytes * n ≤ 281474976710656 ∧ n ≤ 140737488351232 ∧ K { T := upd (fun t => kill (boxIs (1000 + d)) (st.T t)) d (.sl (1000 + d) [] y'.size 0 n.toNat), B := upd (killB (boxIs (1000 + d)) st.B) (1000 + d) (some (false, y'.size, List.replicate n.toNat y'.zero)) }
        | none => False)
      | none => False)
    | _, _, _, _ => False)
  | .convert s t x => convw G o.dst s t x st K
  | .call c => (match c.callee with
    | .builtin .append => (match c.args.toList, c.argTypes.toList, o.dst with
      | [s, x], [t, t2], some d => appw G.tt st (1000 + d) t t2 (ev st.T s) (ev st.T x) fun st' v => K { T := upd st'.T d v, B := st'.B }
      | _, _, _ => False)
    | .builtin .clear => (match c.args.toList, c.argTypes.toList with
      | [x], [t] => chk o.dst.isNone (clrw G.tt st t (ev st.T x) K)
      | _, _ => False)
    | .builtin _ => qwp G.tt st.T st.B o.op (valK o.dst st K)
    | .value f => (match ev st.T f with
      | .lit (.func (.func g) p c') => chk p.isEmpty (chk c'.isEmpty (callw G st g (c.args.toList.map (ev st.T)) o.dst K))
      | .fn g cs => callw G st g (c.args.toList.map (ev st.T) ++ cs) o.dst K
      | _ => False)
    | _ => False)
  | op => qwp G.tt st.T st.B op (valK o.dst st K)
/-- What stands behind an operation. -/
def Next' (cx : Cx) (K : St → Prop) (next : Act → World → Prop) : Prop := ∀ M st a w, K st → Rel cx M st a w → next a w
theorem upon_val (R : Rel cx M st a w) {o : Oper} {K : St → Prop} {v : V} {u : Value} {next : Act → World → Prop} (hN : ∀ d, o.dst = some d → d < cx.N) (h : valK o.dst st K v) (hn : Next' cx K next) (hv : VR M cx.w0 cx.Ro v u) : next (a.put o.dst u) w := by
  unfold valK at h
  rw [force_eq, putK_eq] at h
  cases hd : o.dst with
  | none => rw [hd] at h; exact hn _ _ _ _ h R
  | some d => rw [hd] at h; exact hn _ _ _ _ h (R.put d (hN d hd) hv)
theorem upon_new {M1 : Mp} {st1 : St} {w1 : World} (R : Rel cx M1 st1 a w1) {d : Nat} {K : St → Prop} {v : V} {u : Value} {next : Act → World → Prop} (hd : d < cx.N) (h : K { T := upd st1.T d v, B := st1.B }) (hn : Next' cx K next) (hv : VR M1 cx.w0 cx.Ro v u) : next (a.put (some d) u) w1 :=
  hn _ _ _ _ h (R.put d hd hv)
theorem opw_quiet (R : Rel cx M st a w) {o : Oper} {K : St → Prop} {next : Act → World → Prop} {Q : Exit → Act → World → Prop} (hN : ∀ d, o.dst = some d → d < cx.N) (h : qwp G.tt st.T st.B o.op (valK o.dst st K)) (hn : Next' cx K next) : o.wp G.P a w next Q := by
  obtain ⟨v, u, hk, hrun, hv⟩ := qwp_sound (o := o) R h
  unfold Oper.wp
  rw [hrun w (Kp.refl _ _)]
  exact upon_val R hN hk hn hv
theorem run_call_value (P : Program) (o : Oper) (c : Call) (ho : o.op = .call c) (f : Operand) (hc : c.callee = .value f) (g : Nat) (cs : Array Value) (hf : a.eval f = .func (.func g) #[] cs) {fn : Func} (h1 : P.funcs[g]? = some fn) (h2 : (fn.name == "runtime.NumGoroutine") = false) (h3 : fn.body.isSome = true) :
    (execOp a.eval o).run P w = .ok (.enter g (c.args.map a.eval ++ cs)) w := by
  have hne : fn.name ≠ "runtime.NumGoroutine" := by simpa using h2
  obtain ⟨b, hb⟩ := Option.isSome_iff_exists.1 h3
  simp [execOp, ho, resolve, hc, hf, Deferred.ofValue, invoke, callFunc, h1, hne, hb]
theorem opw_sound (R : Rel cx M st a w) {o : Oper} {K : St → Prop} {next : Act → World → Prop} {Q : Exit → Act → World → Prop} (hN : ∀ d, o.dst = some d → d < cx.N ∧ d < 999) (h : opw G o st K) (hn : Next' cx K next) : o.wp G.P a w next Q := by
  unfold opw at h
  simp only [chk_iff, Option.isNone_iff_eq_none, Array.isEmpty_iff] at h
  split at h
  · rename_i ho
    unfold nilw at h
    split at h
    · rename_i d y hd hy
      have hdN := (hN d hd).1
      have run : (execOp a.eval o).run G.P w = .ok (.value (.slice none 0 0)) w := by simp [execOp, ho, Act.eval]
      unfold Oper.wp
      rw [run, Oper.upon_value, hd]
      split at h
      · split at h
        · rename_i y' hy'
          obtain ⟨M', R', m0, m1⟩ := R.nilBox (1000 + d) y'.size none (by omega) (fun _ h => by cases h)
          exact upon_new R' hdN h hn (.sl ⟨Nat.le_refl _, by decide⟩ (fun h => by omega))
        · exact h.elim
      · exact hn _ _ _ _ h (R.put d hdN (.lit _))
    · exact h.elim
  · rename_i t x v ho
    obtain ⟨hd, h⟩ := h
    obtain ⟨w', M', st', run, hK, R'⟩ := storew_sound R h (R.ev_ x) (R.ev_ v)
    unfold Oper.wp
    have : (execOp a.eval o).run G.P w = .ok .skip w' := by simp [execOp, ho, run]
    rw [this, Oper.upon_skip, hd]
    exact hn _ _ _ _ hK R'
  · rename_i t x ho
    split at h
    · rename_i d hd
      have hdN := (hN d hd).1
      obtain ⟨r, M', st', x', run, hK, R', hv⟩ := boxw_sound R (by omega) h (R.ev_ x)
      unfold Oper.wp
      have : (execOp a.eval o).run G.P w = .ok (.value r) (w.alloc (.cells (a.eval x).cells t)) := by simp [execOp, ho, run]
      rw [this, Oper.upon_value, hd]
      exact upon_new R' hdN hK hn hv
    · exact h.elim
  · rename_i t ho
    split at h
    · rename_i d y hd hy
      have hdN := (hN d hd).1
      have hK := h
      obtain ⟨r, M', us, run, R', hv⟩ := alloc_sound R (1000 + d) t (by omega) y hy
      unfold Oper.wp
      have : (execOp a.eval o).run G.P w = .ok (.value r) (w.alloc (.cells us t)) := by simp [execOp, ho, run]
      rw [this, Oper.upon_value, hd]
      exact upon_new R' hdN hK hn hv
    · exact h.elim
  · rename_i t len parts ho
    split at h
    · rename_i d hd
      have hdN := (hN d hd).1
      obtain ⟨r, w1, M', st', x', run, hK, R', hv, _⟩ := bslw_sound R (by omega) h
      unfold Oper.wp
      have : (execOp a.eval o).run G.P w = .ok (.value r) w1 := by simp [execOp, ho, run]
      rw [this, Oper.upon_value, hd]
      exact upon_new R' hdN hK hn hv
    · exact h.elim
  · rename_i t l c ho
    have hl := R.ev_ l
    have hc := R.ev_ c
    generalize ev st.T l = el at h hl
    generalize ev st.T c = ec at h hc
    split at h
    · rename_i d y k1 n k2 m hd hy
      split at h
      · rename_i e he
        split at h
        · rename_i y' hy'
          have hdN := (hN d hd).1
          obtain ⟨rfl, h0, h1, h2, hK⟩ := h
          obtain ⟨r, M', us, run, R', hv⟩ := make_sound R (1000 + d) t e (by omega) y y' hy he hy' k1 k2 m h0 h1 h2
          unfold Oper.wp
          have : (execOp a.eval o).run G.P w = .ok (.value r) (w.alloc (.cells us e)) := by simp [execOp, ho, hl.lit_, hc.lit_, run]
          rw [this, Oper.upon_value, hd]
          exact upon_new R' hdN hK hn hv
        · exact h.elim
      · exact h.elim
    · exact h.elim
  · rename_i s t x ho
    unfold convw at h
    simp only [chk_iff, decide_eq_true_eq] at h
    have hx := R.ev_ x
    have quiet : qwp G.tt st.T st.B (.convert s t x) (valK o.dst st K) → o.wp G.P a w next Q := fun h => opw_quiet R (fun d h => (hN d h).1) (by rw [ho]; exact h) hn
    generalize hex : ev st.T x = ex at h hx
    split at h
    · rename_i u
      split at h
      · rename_i y z hy hz
        split at h
        · rename_i e he
          split at h
          · rename_i ye d hye hd
            have hdN := (hN d hd).1
            obtain ⟨h1, h2, hub, hK⟩ := h
            obtain ⟨r, w1, M', run, R', hv⟩ := bytes_sound R hy hz h1 he hye h2 (1000 + d) (by omega) u hub
            unfold Oper.wp
            have : (execOp a.eval o).run G.P w = .ok (.value r) w1 := by simp [execOp, ho, hx.lit_, run]
            rw [this, Oper.upon_value, hd]
            exact upon_new R' hdN hK hn hv
          · exact h.elim
        · exact quiet h
      · exact h.elim
    · split at h
      · rename_i y z hy hz
        split at h
        · rename_i e he
          split at h
          · rename_i ye hye
            obtain ⟨h1, h2, hK⟩ := h
            have e1 := hx.lit_
            have u1 := (G.ok s y hy).sl e he
            have u2 := (G.ok e ye hye).ik _ h1
            have u3 := (G.ok t z hz).str h2
            unfold Oper.wp
            have : (execOp a.eval o).run G.P w = .ok (.value (.string ⟨#[]⟩)) w := by
              simp [execOp, ho, e1, run_convert_bytes_string w s t e none 0 0 u1 u2 u3, Conv.bytesToString]; rfl
            rw [this]
            exact upon_val R (fun d h => (hN d h).1) hK hn (.lit _)
          · exact h.elim
        · exact h.elim
      · exact h.elim
    · exact quiet h
    · split at h
      · rename_i y z hy hz
        split at h
        · rename_i e he
          split at h
          · rename_i ye hye
            obtain ⟨h1, h2, h3⟩ := h
            have key : ∃ l, rowV st.B (fun sz xs => sz = 1 ∧ xs = byR l) ex ∧ valK o.dst st K (.lit (.string ⟨l.toArray⟩)) := by
              unfold rowV at h3 ⊢
              simp only [chk_iff, decide_eq_true_eq] at h3 ⊢
              split at h3
              · exact ⟨_, ⟨h3.1, h3.2.1⟩, h3.2.2⟩
              · split at h3
                · rename_i hr
                  obtain ⟨g1, g2, g3, g4, g5⟩ := h3
                  exact ⟨_, ⟨g1, g2, g3, g4⟩, g5⟩
                · exact h3.elim
              · exact h3.elim
            obtain ⟨l, hl, hK⟩ := key
            have run := run_text R hy hz he hye h1 h2 hx hl
            unfold Oper.wp
            have : (execOp a.eval o).run G.P w = .ok (.value (.string ⟨l.toArray⟩)) w := by simp [execOp, ho, run]
            rw [this]
            exact upon_val R (fun d h => (hN d h).1) hK hn (.lit _)
          · exact h.elim
        · exact h.elim
      · exact h.elim
  · rename_i c ho
    have args : VRs M cx.w0 cx.Ro (c.args.toList.map (ev st.T)) (c.args.map a.eval) := by
      refine ⟨by simp, fun k v u hv hu => ?_⟩
      simp only [List.getElem?_map, Array.getElem?_toList, Array.getElem?_map, Option.map_eq_some_iff] at hv hu
      obtain ⟨x, hx, rfl⟩ := hv
      obtain ⟨x', hx', rfl⟩ := hu
      rw [hx] at hx'; cases hx'
      exact R.ev_ _
    have call : ∀ g cs f, c.callee = .value f → a.eval f = .func (.func g) #[] cs → ∀ vs, VRs M cx.w0 cx.Ro vs (c.args.map a.eval ++ cs) → callw G st g vs o.dst K → o.wp G.P a w next Q := by
      have hd := hN
      intro g cs f hc hf vs hvs hcall
      have hd' : o.dst.getD 999 < 1000 := by cases ho2 : o.dst with
        | none => decide
        | some d => exact Nat.lt_of_lt_of_le (hd d ho2).2 (by decide)
      have both : (∃ fn, G.P.funcs[g]? = some fn ∧ (fn.name == "runtime.NumGoroutine") = false ∧ fn.body.isSome = true) ∧ Calls G.P g (c.args.map a.eval ++ cs) w (Back cx a o.dst K) := by
        rcases hcall with h | h | h
        · exact callV_sound R h hd' (fun d h => (hd d h).1) hvs
        · exact callR_sound R h hd' (fun d h => (hd d h).1) hvs
        · exact callG_sound R h hd' (fun d h => (hd d h).1) hvs
      obtain ⟨⟨fn, f1, f2, f3⟩, hC⟩ := both
      unfold Oper.wp
      rw [run_call_value G.P o c ho f hc g cs hf f1 f2 f3, Oper.upon_enter]
      refine hC.mono fun e w' he => ?_
      obtain ⟨u, M', st', rfl, hK, R'⟩ := he
      exact hn _ _ _ _ hK R'
    split at h
    · rename_i hc
      split at h
      · rename_i s x t t2 d ha ht hd
        have hdN := (hN d hd).1
        obtain ⟨callee, cargs, types⟩ := c
        simp only at hc ha ht
        subst hc
        obtain rfl : cargs = #[s, x] := by rw [← Array.toList_inj]; exact ha
        obtain rfl : types = #[t, t2] := by rw [← Array.toList_inj]; exact ht
        obtain ⟨r, w1, M', st', v, run, hK, R', hv, _⟩ := appw_sound (ty := o.type) R (by omega) (by omega) h (R.ev_ s) (R.ev_ x)
        unfold Oper.wp
        have : (execOp a.eval o).run G.P w = .ok (.value r) w1 := by simp [execOp, ho, resolve, invoke, builtin, run]
        rw [this, Oper.upon_value, hd]
        exact upon_new R' hdN hK hn hv
      · exact h.elim
    · rename_i hc
      split at h
      · rename_i x t ha ht
        obtain ⟨hd, h⟩ := h
        obtain ⟨callee, cargs, types⟩ := c
        simp only at hc ha ht
        subst hc
        obtain rfl : cargs = #[x] := by rw [← Array.toList_inj]; exact ha
        obtain rfl : types = #[t] := by rw [← Array.toList_inj]; exact ht
        obtain ⟨w1, M', st', run, hK, R'⟩ := clrw_sound (ty := o.type) R h (R.ev_ x)
        unfold Oper.wp
        have : (execOp a.eval o).run G.P w = .ok (.value (.tuple #[])) w1 := by simp [execOp, ho, resolve, invoke, builtin, run]
        rw [this, Oper.upon_value, hd]
        exact hn _ _ _ _ hK R'
      · exact h.elim
    · exact opw_quiet R (fun d h => (hN d h).1) h hn
    · rename_i f hc
      have hf := R.ev_ f
      generalize ev st.T f = ef at h hf
      split at h
      · obtain ⟨rfl, rfl, h⟩ := h
        refine call _ #[] f hc hf.lit_ _ ?_ h
        simpa using args
      · rename_i g cs
        generalize hg : a.eval f = gv at hf
        cases hf with
        | @fn _ _ us h1 h2 =>
          refine call g us f hc hg _ ?_ h
          refine ⟨by simp [h1], fun k v u hv hu => ?_⟩
          by_cases hk : k < (c.args.toList.map (ev st.T)).length
          · rw [List.getElem?_append_left hk] at hv
            rw [Array.getElem?_append_left (by simpa using hk)] at hu
            exact args.2 k v u hv hu
          · rw [List.getElem?_append_right (by omega)] at hv
            rw [Array.getElem?_append_right (by simpa using hk)] at hu
            have e1 : (c.args.toList.map (ev st.T)).length = (c.args.map a.eval).size := by simp
            rw [e1] at hv
            exact h2 _ v u hv hu
      · exact h.elim
    · exact h.elim
  · exact opw_quiet R (fun d h => (hN d h).1) h hn
end Go.Proofs.Ytniibpihbopehaa.M

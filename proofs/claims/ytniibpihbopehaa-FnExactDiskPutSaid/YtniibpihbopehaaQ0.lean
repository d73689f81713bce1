/- A function's text. -/
import Derived.Test.YtniibpihbopehaaT1
namespace Go.Proofs.Ytniibpihbopehaa.M
open Go Go.RowKit
set_option linter.unusedVariables false
set_option linter.unusedSimpArgs false
variable {cx : Cx} {M M' : Mp} {st : St} {a : Act} {w w' : World} {G : Pg} {p : Nat → Path → Bool}
theorem upd_id {α : Type} (f : Nat → α) (d : Nat) (v : α) (h : f d = v) : upd f d v = f := by
  funext t
  simp only [upd]
  split
  · rename_i e; subst e; exact h.symm
  · rfl
/-- A slot that is known to hold a flag, in the state. -/
def known (st : St) (d : Nat) (t : Bool) (K : St → Prop) : Prop := match st with
  | ⟨T, B⟩ => K ⟨upd T d (.lit (.bool t)), B⟩
theorem known_eq {st : St} {d : Nat} {t : Bool} (h : st.T d = .lit (.bool t)) (K : St → Prop) : known st d t K = K st := by
  obtain ⟨T, B⟩ := st
  simp only [known]
  rw [upd_id T d _ h]
/-- By an operation's guard. -/
def guardw (st : St) (d : Nat) (t want : Bool) (run skip : St → Prop) : Prop := match want with
  | true => iteB t (known st d true run) (known st d false skip)
  | false => iteB t (known st d true skip) (known st d false run)
theorem guardw_get {st : St} {d : Nat} {t want : Bool} {run skip : St → Prop} (hd : st.T d = .lit (.bool t)) (h : guardw st d t want run skip) : (t = want → run st) ∧ (t = !want → skip st) := by
  cases want <;> cases t <;> simp only [guardw, iteB, known_eq hd] at h <;> simp [h]
/-- Operations one behind the other. -/
def owp (G : Pg) (ops : Array Oper) : List Oper → St → (St → Prop) → Prop
  | [], st, K => K st
  | o :: r, st, K => match o.guard with
    | none => opw G o st fun st' => owp G ops r st' K
    | some (j, want) => match (ops[j]?).bind (·.dst) with
      | none => False
      | some d => match st.T d with
        | .lit (.bool t) => guardw st d t want (fun st => opw G o st fun st' => owp G ops r st' K) (fun st => valK o.dst st (fun st' => owp G ops r st' K) (.lit (.tuple #[])))
        | .lit (.tuple _) => valK o.dst st (fun st' => owp G ops r st' K) (.lit (.tuple #[]))
        | _ => False
theorem yields_of (R : Rel cx M st a w) {ops : Array Oper} (hN : ∀ o ∈ ops.toList, ∀ d, o.dst = some d → d < cx.N ∧ d < 999) {j d : Nat} {t : Bool} (hd : (ops[j]?).bind (·.dst) = some d) (ht : st.T d = .lit (.bool t)) : yielded ops a.tmps j = some t := by
  have hdN : d < cx.N := by
    cases hj : ops[j]? with
    | none => rw [hj] at hd; cases hd
    | some oj => rw [hj] at hd; exact (hN oj (by have := Array.mem_of_getElem? hj; simpa using this) d hd).1
  have hv := R.regs d
  rw [ht] at hv
  have e := hv.lit_
  have hlt : d < a.tmps.size := by rw [R.size]; exact hdN
  have : a.tmps[d]? = some (.bool t) := by
    rw [Array.getD_eq_getD_getElem?, Array.getElem?_eq_getElem hlt] at e
    rw [Array.getElem?_eq_getElem hlt]
    simpa using e
  simp [yielded, hd, this]
theorem yields_none (R : Rel cx M st a w) {ops : Array Oper} (hN : ∀ o ∈ ops.toList, ∀ d, o.dst = some d → d < cx.N ∧ d < 999) {j d : Nat} {t : Array Value} (hd : (ops[j]?).bind (·.dst) = some d) (ht : st.T d = .lit (.tuple t)) : yielded ops a.tmps j = none := by
  have hdN : d < cx.N := by
    cases hj : ops[j]? with
    | none => rw [hj] at hd; cases hd
    | some oj => rw [hj] at hd; exact (hN oj (by have := Array.mem_of_getElem? hj; simpa using this) d hd).1
  have hv := R.regs d
  rw [ht] at hv
  have e := hv.lit_
  have hlt : d < a.tmps.size := by rw [R.size]; exact hdN
  have : a.tmps[d]? = some (.tuple t) := by
    rw [Array.getD_eq_getD_getElem?, Array.getElem?_eq_getElem hlt] at e
    rw [Array.getElem?_eq_getElem hlt]
    simpa using e
  simp [yielded, hd, this]
theorem owp_sound {ops : Array Oper} {K : St → Prop} {Q : Exit → Act → World → Prop} (hN : ∀ o ∈ ops.toList, ∀ d, o.dst = some d → d < cx.N ∧ d < 999) (hQ : Next' cx K (Q .normal)) : ∀ (l : List Oper) (st : St) (M : Mp) (a : Act) (w : World), Rel cx M st a w → (∀ o ∈ l, ∀ d, o.dst = some d → d < cx.N ∧ d < 999) → owp G ops l st K → wpList G.P ops Q l a w := by
  intro l
  induction l with
  | nil => intro st M a w R hl h; exact hQ _ _ _ _ h R
  | cons o r ih =>
    intro st M a w R hl h
    have ho := hl o (by simp)
    unfold owp at h
    unfold wpList
    have next : Next' cx (fun st' => owp G ops r st' K) (wpList G.P ops Q r) := fun M st a w hk R => ih st M a w R (fun o h => hl o (by simp [h])) hk
    cases hg : o.guard with
    | none =>
      rw [hg] at h
      simp only at h
      have hw : Region.wanted o (yielded ops a.tmps) = true := by simp [Region.wanted, hg]
      rw [if_pos hw]
      exact .inl (opw_sound R ho h next)
    | some jw =>
      obtain ⟨j, want⟩ := jw
      rw [hg] at h
      simp only at h
      split at h
      · exact h.elim
      · rename_i d hd
        split at h
        · rename_i t ht
          obtain ⟨h1, h2⟩ := guardw_get ht h
          have hy := yields_of R hN hd ht
          by_cases htw : t = want
          · have hw : Region.wanted o (yielded ops a.tmps) = true := by simp [Region.wanted, hg, hy, htw]
            rw [if_pos hw]
            exact .inl (opw_sound R ho (h1 htw) next)
          · have hw : ¬ Region.wanted o (yielded ops a.tmps) = true := by simp [Region.wanted, hg, hy, htw]
            rw [if_neg hw]
            exact upon_val R (fun d h => (ho d h).1) (h2 (by cases t <;> cases want <;> first | rfl | exact absurd rfl htw)) next (.lit _)
        · rename_i t ht
          have hy := yields_none R hN hd ht
          have hw : ¬ Region.wanted o (yielded ops a.tmps) = true := by simp [Region.wanted, hg, hy]
          rw [if_neg hw]
          exact upon_val R (fun d h => (ho d h).1) h next (.lit _)
        · exact h.elim
theorem valK_rel (R : Rel cx M st a w) {o : Oper} {K : St → Prop} {v : V} {u : Value} (hN : ∀ d, o.dst = some d → d < cx.N) (h : valK o.dst st K v) (hv : VR M cx.w0 cx.Ro v u) : ∃ st', Rel cx M st' (a.put o.dst u) w ∧ K st' := by
  unfold valK at h
  rw [force_eq, putK_eq] at h
  cases hd : o.dst with
  | none => rw [hd] at h; exact ⟨st, R, h⟩
  | some d => rw [hd] at h; exact ⟨_, R.put d (hN d hd) hv, h⟩
/-- A call that looks, and hands back a plain value. -/
def callQ (G : Pg) (st : St) (f : Nat) (args : List V) (K : V → Prop) : Prop := ∃ x, views noF st.B args (fun args' => ∃ bs', FnB G f args' [] (.lit x) bs') ∧ K (.lit x)
theorem callQ_i {G : Pg} {st : St} {f : Nat} {args : List V} {K : V → Prop} {x : Value} (h : views noF st.B args fun args' => ∃ bs', FnB G f args' [] (.lit x) bs') (hK : K (.lit x)) : callQ G st f args K := ⟨x, h, hK⟩
def opq (G : Pg) (o : Oper) (st : St) (K : V → Prop) : Prop :=
  match o.op with
  | .call c => (match c.callee with
    | .value f => (match ev st.T f with
      | .lit (.func (.func g) p c') => chk p.isEmpty (chk c'.isEmpty (callQ G st g (c.args.toList.map (ev st.T)) K))
      | .fn g cs => callQ G st g (c.args.toList.map (ev st.T) ++ cs) K
      | _ => False)
    | _ => qwp G.tt st.T st.B o.op K)
  | op => qwp G.tt st.T st.B op K
/-- Operations that leave what is there, one behind the other. -/
def dwp (G : Pg) (ops : Array Oper) : List Oper → St → (St → Prop) → Prop
  | [], st, K => K st
  | o :: r, st, K => match o.guard with
    | none => opq G o st (valK o.dst st fun st' => dwp G ops r st' K)
    | some (j, want) => match (ops[j]?).bind (·.dst) with
      | none => False
      | some d => match st.T d with
        | .lit (.bool t) => guardw st d t want (fun st => opq G o st (valK o.dst st fun st' => dwp G ops r st' K)) (fun st => valK o.dst st (fun st' => dwp G ops r st' K) (.lit (.tuple #[])))
        | .lit (.tuple _) => valK o.dst st (fun st' => dwp G ops r st' K) (.lit (.tuple #[]))
        | _ => False
theorem Rel.later (R : Rel cx M st a w) (h : Sm w w') : Rel cx M st a w' := by
  have e : ∀ t xs, killRow noPath t xs = xs := by
    intro t xs
    unfold killRow
    split
    · rw [show killL noPath = id by funext l; exact killL_no l]; simp
    · rfl
  refine ⟨R.defers, R.size, R.regs, fun b q t s xs hx => ?_, R.inj, R.away, R.keep.trans h (fun _ _ _ h => h.elim), R.root⟩
  have := (R.flat b q t s xs hx).struck (p := noPath) (M' := M) (w' := w') (fun _ _ _ => rfl) rfl (fun _ _ _ _ _ => rfl) (fun A n hA => h.block _ (R.block_lt hx hA) (fun _ h => h))
  rw [e] at this
  exact this
theorem opq_sound (R : Rel cx M st a w) {o : Oper} {K : V → Prop} (h : opq G o st K) : ∃ v u, K v ∧ (∀ w', Sm w w' → o.quietAt G.P a (Sm w) w' u) ∧ VR M cx.w0 cx.Ro v u := by
  have quiet : qwp G.tt st.T st.B o.op K → ∃ v u, K v ∧ (∀ w', Sm w w' → o.quietAt G.P a (Sm w) w' u) ∧ VR M cx.w0 cx.Ro v u := fun h => by
    obtain ⟨v, u, h1, h2, h3⟩ := qwp_sound R h
    refine ⟨v, u, h1, fun w' hs => ?_, h3⟩
    unfold Oper.quietAt
    rw [h2 w' hs]
    exact ⟨rfl, rfl⟩
  unfold opq at h
  simp only [chk_iff, Array.isEmpty_iff] at h
  split at h
  · rename_i c ho
    have args : VRs M cx.w0 cx.Ro (c.args.toList.map (ev st.T)) (c.args.map a.eval) := by
      refine ⟨by simp, fun k v u hv hu => ?_⟩
      simp only [List.getElem?_map, Array.getElem?_toList, Array.getElem?_map, Option.map_eq_some_iff] at hv hu
      obtain ⟨x, hx, rfl⟩ := hv
      obtain ⟨x', hx', rfl⟩ := hu
      rw [hx] at hx'; cases hx'
      exact R.ev_ _
    have call : ∀ g cs f, c.callee = .value f → a.eval f = .func (.func g) #[] cs → ∀ vs, VRs M cx.w0 cx.Ro vs (c.args.map a.eval ++ cs) → callQ G st g vs K → ∃ v u, K v ∧ (∀ w', Sm w w' → o.quietAt G.P a (Sm w) w' u) ∧ VR M cx.w0 cx.Ro v u := by
      intro g cs f hc hf vs hvs hcall
      obtain ⟨x, hvw, hK⟩ := hcall
      refine ⟨_, x, hK, fun w' hs => ?_, .lit _⟩
      have R' := R.later hs
      obtain ⟨args', ⟨bs', hF⟩, hl, hvv⟩ := views_ok R' (F := noF) (fun k hk => R'.roLt hk) (fun b q x A n h1 h2 => R'.block_lt h1 h2) M (fun _ _ _ _ h => by cases h) vs (c.args.map a.eval ++ cs).toList _ hvw (by rw [Array.length_toList]; exact hvs.1) (fun k v u hv' hu => hvs.2 k v u hv' (by rw [Array.getElem?_toList] at hu; exact hu))
      obtain ⟨⟨fn, f1, f2, f3⟩, hF⟩ := hF.h
      unfold Oper.quietAt
      rw [run_call_value G.P o c ho f hc g cs hf f1 f2 f3]
      refine ⟨rfl, ?_⟩
      let cx1 : Cx := ⟨w', oldRo w', fun _ _ => False, 0, fun _ => False, M, fun k hk => hk, fun _ _ _ h => h, R'.globTo fun k hk => R'.roLt hk⟩
      refine (hF cx1 M (c.args.map a.eval ++ cs) (relB_nil w' cx1 rfl M rfl) ⟨by rw [← Array.length_toList]; exact hl, fun k v u hv' hu => hvv k v u hv' (by rw [Array.getElem?_toList]; exact hu)⟩).mono fun e w2 hw => ?_
      obtain ⟨u, M1, rfl, R1, hr⟩ := hw
      have k1 : Sm w' w2 := R1.keep
      exact ⟨by rw [hr.lit_], hs.trans k1 (fun _ _ _ h => h)⟩
    split at h
    · rename_i f hc
      have hf := R.ev_ f
      generalize ev st.T f = ef at h hf
      split at h
      · obtain ⟨rfl, rfl, h⟩ := h
        refine call _ #[] f hc hf.lit_ _ ?_ h
        simpa using args
      · rename_i g cs
        generalize hg : a.eval f = gv at hf
        cases hf with
        | @fn _ _ us h1 h2 =>
          refine call g us f hc hg _ ?_ h
          refine ⟨by simp [h1], fun k v u hv hu => ?_⟩
          by_cases hk : k < (c.args.toList.map (ev st.T)).length
          · rw [List.getElem?_append_left hk] at hv
            rw [Array.getElem?_append_left (by simpa using hk)] at hu
            exact args.2 k v u hv hu
          · rw [List.getElem?_append_right (by omega)] at hv
            rw [Array.getElem?_append_right (by simpa using hk)] at hu
            have e1 : (c.args.toList.map (ev st.T)).length = (c.args.map a.eval).size := by simp
            rw [e1] at hv
            exact h2 _ v u hv hu
      · exact h.elim
    · exact quiet h
  · exact quiet h
theorem dwp_sound {ops : Array Oper} {K : St → Prop} (hN : ∀ o ∈ ops.toList, ∀ d, o.dst = some d → d < cx.N ∧ d < 999) : ∀ (l : List Oper) (st : St) (M : Mp) (a : Act) (w : World), Rel cx M st a w → (∀ o ∈ l, ∀ d, o.dst = some d → d < cx.N ∧ d < 999) → dwp G ops l st K →
    wpQuiet G.P ops (Sm w) (fun a' => ∃ st', K st' ∧ Rel cx M st' a' w) l a := by
  intro l
  induction l with
  | nil => intro st M a w R _ h; exact ⟨st, h, R⟩
  | cons o r ih =>
    intro st M a w R hl h
    have ho := hl o (by simp)
    have next : ∀ st' a', Rel cx M st' a' w → dwp G ops r st' K → wpQuiet G.P ops (Sm w) (fun a' => ∃ st', K st' ∧ Rel cx M st' a' w) r a' := fun st' a' R' h' => ih st' M a' w R' (fun o h => hl o (by simp [h])) h'
    have run : ∀ (hw : Region.wanted o (yielded ops a.tmps) = true), opq G o st (valK o.dst st fun st' => dwp G ops r st' K) → wpQuiet G.P ops (Sm w) (fun a' => ∃ st', K st' ∧ Rel cx M st' a' w) (o :: r) a := by
      intro hw h
      obtain ⟨v, u, h1, h2, h3⟩ := opq_sound R h
      obtain ⟨st', R', hk⟩ := valK_rel R (fun d h => (ho d h).1) h1 h3
      unfold wpQuiet
      rw [if_pos hw]
      exact ⟨u, h2, next st' _ R' hk⟩
    unfold dwp at h
    cases hg : o.guard with
    | none =>
      rw [hg] at h
      exact run (by simp [Region.wanted, hg]) h
    | some jw =>
      obtain ⟨j, want⟩ := jw
      rw [hg] at h
      simp only at h
      split at h
      · exact h.elim
      · rename_i d hd
        split at h
        · rename_i t ht
          obtain ⟨h1, h2⟩ := guardw_get ht h
          have hy := yields_of R hN hd ht
          by_cases htw : t = want
          · exact run (by simp [Region.wanted, hg, hy, htw]) (h1 htw)
          · have hw : ¬ Region.wanted o (yielded ops a.tmps) = true := by simp [Region.wanted, hg, hy, htw]
            obtain ⟨st', R', hk⟩ := valK_rel R (fun d h => (ho d h).1) (h2 (by cases t <;> cases want <;> first | rfl | exact absurd rfl htw)) (.lit _)
            unfold wpQuiet
            rw [if_neg hw]
            exact next st' _ R' hk
        · rename_i t ht
          have hy := yields_none R hN hd ht
          have hw : ¬ Region.wanted o (yielded ops a.tmps) = true := by simp [Region.wanted, hg, hy]
          obtain ⟨st', R', hk⟩ := valK_rel R (fun d h => (ho d h).1) h (.lit _)
          unfold wpQuiet
          rw [if_neg hw]
          exact next st' _ R' hk
        · exact h.elim
/-- A call in a region that draws: by views, or of what is only read. -/
def opm (G : Pg) (o : Oper) (st : St) (K : St → Prop) : Prop :=
  match o.op with
  | .call c => (match c.callee with
    | .value f => (match ev st.T f with
      | .lit (.func (.func g) p c') => chk p.isEmpty (chk c'.isEmpty (callV G st g (c.args.toList.map (ev st.T)) o.dst K ∨ callR G st g (c.args.toList.map (ev st.T)) o.dst K))
      | .fn g cs => callV G st g (c.args.toList.map (ev st.T) ++ cs) o.dst K ∨ callR G st g (c.args.toList.map (ev st.T) ++ cs) o.dst K
      | _ => False)
    | _ => qwp G.tt st.T st.B o.op (valK o.dst st K))
  | .buildSlice t len parts => (match o.dst with
    | some d => bslw G.tt st (1000 + d) t len parts.toList fun st' v => K { T := upd st'.T d v, B := st'.B }
    | none => False)
  | op => qwp G.tt st.T st.B op (valK o.dst st K)
/-- An operation that tells: bytes as a text, too. -/
def tellw (G : Pg) (o : Oper) (st : St) (K : V → Prop) : Prop := match o.op with
  | .convert s t x => (match ev st.T x with
    | .lit _ => qwp G.tt st.T st.B o.op K
    | v => (match G.tt s, G.tt t with
      | some y, some z => (match y.sl with
        | some e => (match G.tt e with
          | some ye => chk (decide (ye.ik = some .u8)) (chk z.str (rowV st.B (fun sz xs => chk (decide (sz = 1)) (xs = byR (unbyR xs) ∧ K (.lit (.string ⟨(unbyR xs).toArray⟩)))) v))
          | none => False)
        | none => False)
      | _, _ => False))
  | _ => qwp G.tt st.T st.B o.op K
theorem tellw_sound (R : Rel cx M st a w) {o : Oper} {K : V → Prop} (h : tellw G o st K) : ∃ v u, K v ∧ (∀ w', Sm w w' → (execOp a.eval o).run G.P w' = .ok (.value u) w') ∧ VR M cx.w0 cx.Ro v u := by
  unfold tellw at h
  simp only [chk_iff, decide_eq_true_eq] at h
  split at h
  · rename_i s t x ho
    have hx := R.ev_ x
    generalize hex : ev st.T x = ex at h hx
    split at h
    · exact qwp_sound R h
    · split at h
      · rename_i y z hy hz
        split at h
        · rename_i e he
          split at h
          · rename_i ye hye
            obtain ⟨h1, h2, h3⟩ := h
            have key : ∃ l, rowV st.B (fun sz xs => sz = 1 ∧ xs = byR l) ex ∧ K (.lit (.string ⟨l.toArray⟩)) := by
              unfold rowV at h3 ⊢
              simp only [chk_iff, decide_eq_true_eq] at h3 ⊢
              split at h3
              · exact ⟨_, ⟨h3.1, h3.2.1⟩, h3.2.2⟩
              · split at h3
                · rename_i hr
                  obtain ⟨g1, g2, g3, g4, g5⟩ := h3
                  exact ⟨_, ⟨g1, g2, g3, g4⟩, g5⟩
                · exact h3.elim
              · exact h3.elim
            obtain ⟨l, hl, hK⟩ := key
            refine ⟨_, .string ⟨l.toArray⟩, hK, fun w' hs => ?_, .lit _⟩
            have run := run_text (R.later hs) hy hz he hye h1 h2 hx hl
            simp [execOp, ho, run]
          · exact h.elim
        · exact h.elim
      · exact h.elim
  · exact qwp_sound R h
def xstep (G : Pg) (fl : Bool) (o : Oper) (st : St) (K : St → Prop) : Prop := match fl with
  | true => tellw G o st (valK o.dst st K)
  | false => opm G o st K
/-- Operations in a given order. -/
def xwp (G : Pg) (ops : Array Oper) : List (Nat × Bool) → St → (St → Prop) → Prop
  | [], st, K => K st
  | (i, fl) :: r, st, K => match ops[i]? with
    | none => False
    | some o => match o.guard with
      | none => xstep G fl o st fun st' => xwp G ops r st' K
      | some (j, want) => match (ops[j]?).bind (·.dst) with
        | none => False
        | some d => match st.T d with
          | .lit (.bool t) => guardw st d t want (fun st => xstep G fl o st fun st' => xwp G ops r st' K) (fun st => valK o.dst st (fun st' => xwp G ops r st' K) (.lit (.tuple #[])))
          | .lit (.tuple _) => valK o.dst st (fun st' => xwp G ops r st' K) (.lit (.tuple #[]))
          | _ => False
theorem callV_soundM (R : Rel cx M st a w) {f : Nat} {args : List V} {o : Option Nat} {K : St → Prop} {vals : Array Value} (h : callV G st f args o K) (hd : o.getD 999 < 1000) (ho : ∀ d, o = some d → d < cx.N) (hv : VRs M cx.w0 cx.Ro args vals) : (∃ fn, G.P.funcs[f]? = some fn ∧ (fn.name == "runtime.NumGoroutine") = false ∧ fn.body.isSome = true) ∧ Calls G.P f vals w fun e w' => Sm w w' ∧ Back cx a o K e w' := by
  obtain ⟨r, bs', h1, h2, h3, hK⟩ := h
  obtain ⟨args', hF, hl, hvs⟩ := views_ok R (F := noF) (fun k hk => R.roLt hk) (fun b q x A n h1 h2 => R.block_lt h1 h2) M (fun _ _ _ _ h => by cases h) args vals.toList _ h1 (by rw [Array.length_toList]; exact hv.1) (fun k v u hv' hu => hv.2 k v u hv' (by simpa using hu))
  obtain ⟨hfn, hF⟩ := hF.h
  refine ⟨hfn, ?_⟩
  let cx1 : Cx := ⟨w, oldRo w, fun _ _ => False, 0, fun _ => False, M, fun k hk => hk, fun _ _ _ h => h, R.globTo fun k hk => R.roLt hk⟩
  have c := hF cx1 M vals (relB_nil w cx1 rfl M rfl) ⟨by rw [← Array.length_toList]; exact hl, fun k v u hv' hu => hvs k v u hv' (by simpa using hu)⟩
  refine c.mono fun e w' hw => ?_
  obtain ⟨u, M1, rfl, R1, hr⟩ := hw
  have hclosed : ∀ j x, toB bs' j = some x → x.1 = true → False := by
    intro j x hx ht
    have := List.all_eq_true.1 h3 _ (toB_mem hx)
    simp [ht] at this
  have Ri := R.import (d := o.getD 999) hd R1 rfl (fun k hk => hk) (fun k o hk => hk) (fun j x hx _ ht => (hclosed j x hx ht).elim)
  exact ⟨R1.keep, back_put Ri ho (hr.cleaned h2 _ (fun b q hb => by simp only [resId_name hd hb])) hK⟩
theorem callR_soundM (R : Rel cx M st a w) {f : Nat} {args : List V} {o : Option Nat} {K : St → Prop} {vals : Array Value} (h : callR G st f args o K) (hd : o.getD 999 < 1000) (ho : ∀ d, o = some d → d < cx.N) (hv : VRs M cx.w0 cx.Ro args vals) : (∃ fn, G.P.funcs[f]? = some fn ∧ (fn.name == "runtime.NumGoroutine") = false ∧ fn.body.isSome = true) ∧ Calls G.P f vals w fun e w' => Sm w w' ∧ Back cx a o K e w' := by
  obtain ⟨r, bs', h1, hF, h2, h3, hK⟩ := h
  obtain ⟨hfn, hF⟩ := hF.h
  refine ⟨hfn, ?_⟩
  have hc : ∀ k o, cx.Ro k → w.cell? ⟨k, o, none⟩ = cx.w0.cell? ⟨k, o, none⟩ := fun k o hk => R.roCell hk
  let cx1 : Cx := ⟨w, cx.Ro, fun _ _ => False, 0, fun _ => False, M, fun k hk => R.roLt hk, fun _ _ _ h => h, R.globTo fun k hk => hk⟩
  have c := hF cx1 M vals (relB_nil w cx1 rfl M rfl) ⟨hv.1, fun k v u hv' hu => (hv.2 k v u hv' hu).roTo (isRoL_get h1 k v hv') hc⟩
  refine c.mono fun e w' hw => ?_
  obtain ⟨u, M1, rfl, R1, hr⟩ := hw
  have hren : ∀ j x, toB bs' j = some x → 500 ≤ j → x.1 = true → ∀ i k v, cellAt x.2.2 i k = some v → names (fun _ => false) v = true := by
    intro j x hx _ ht i k v hc'
    have := List.all_eq_true.1 h3 _ (toB_mem hx)
    simp only [ht, Bool.not_true, Bool.false_or] at this
    unfold cellAt at hc'
    cases hy : x.2.2[i]? with
    | none => rw [hy] at hc'; cases hc'
    | some y =>
      rw [hy] at hc'
      exact namesL_get (List.all_eq_true.1 this y (List.mem_of_getElem? hy)) k v hc'
  have tr : ∀ (ok : Nat → Bool) (v : V) (u : Value), names ok v = true → (∀ b, ok b = true → 500 ≤ b) → VR M1 w cx.Ro v u → VR (fun b q => match resId (o.getD 999) b with | some j => M1 j q | none => M b q) cx.w0 cx.Ro (ren (resName (o.getD 999)) v) u := by
    intro ok v u hn hok hv'
    exact hv'.renamed hn _ (fun b q hb => by simp only [resId_name hd (hok b hb)]) (fun v u h => Rd.mono (fun _ hk => hk) (fun k o hk => (hc k o hk).symm) h) (fun _ hk => hk) (fun k o hk => (hc k o hk).symm)
  have Ri := R.import (d := o.getD 999) hd R1 rfl (fun k hk => hk) (fun k o hk => hk) (fun j x hx hj ht i k v u hc' hv' => by
    have hn := hren j x hx hj ht i k v hc'
    have := tr _ v u hn (fun b hb => by cases hb) hv'
    rw [ren_id v hn] at this
    exact this)
  exact ⟨R1.keep, back_put Ri ho (tr _ r u h2 (fun b hb => of_decide_eq_true hb) hr) hK⟩
/-- What stands behind rows, in the blocks that were: no more than it was. -/
def Nar (B' : Bs) (M' : Mp) (B : Bs) (M : Mp) (n : Nat) : Prop := ∀ k o, k < n → Spare B' M' k o → Spare B M k o
def BackN (cx : Cx) (a : Act) (o : Option Nat) (K : St → Prop) (B : Bs) (M : Mp) (n : Nat) (e : Ending) (w' : World) : Prop := ∃ u M' st', e = .returned u ∧ K st' ∧ Rel cx M' st' (a.put o u) w' ∧ Nar st'.B M' B M n
theorem back_putN {K : St → Prop} {o : Option Nat} {B B0 : Bs} {M0 : Mp} {n : Nat} {T : Nat → V} {v : V} {u : Value} (R : Rel cx M { T := T, B := B } a w) (ho : ∀ d, o = some d → d < cx.N) (hv : VR M cx.w0 cx.Ro v u) (hK : K { T := updO T o v, B := B }) (hn : Nar B M B0 M0 n) : BackN cx a o K B0 M0 n (.returned u) w := by
  cases o with
  | none => exact ⟨u, M, _, rfl, hK, R, hn⟩
  | some d => exact ⟨u, M, _, rfl, hK, R.put d (ho d rfl) hv, hn⟩
theorem import_nar {d : Nat} {bs' : Bl} {M1 : Mp} {w1 : World} {cx1 : Cx} (R1 : RelB cx1 M1 (toB bs') w1) (hw0 : cx1.w0 = w) (hOwn : ∀ k, ¬ cx1.Own k) :
    Nar (impB d st.B bs') (fun b q => match resId d b with | some j => M1 j q | none => M b q) st.B M w.heap.size := by
  rintro k o hk ⟨b, q, sz, xs, A, n, h1, h2, h3, h4⟩
  cases hr : resId d b with
  | some j =>
    simp only [hr] at h2
    have h1' : rowsAt (toB bs') j q = some (false, sz, xs) := by
      unfold rowsAt impB at h1
      unfold rowsAt
      rw [hr] at h1; exact h1
    have := (R1.away j q _ _ _ h1' A n h2).2
    exact absurd (this (by rw [hw0, h3]; exact hk)).1 (hOwn _)
  | none =>
    simp only [hr] at h2
    have e : rowsAt (impB d st.B bs') b q = rowsAt (killB (isRes d) st.B) b q := by unfold rowsAt impB; rw [hr]
    rw [e, rowsAt_killB] at h1
    obtain ⟨⟨t', s', zs⟩, g1, g2⟩ := Option.map_eq_some_iff.1 h1
    simp only [Prod.mk.injEq] at g2
    obtain ⟨rfl, rfl, rfl⟩ := g2
    rw [killRow_length] at h4
    exact ⟨b, q, _, zs, A, n, g1, h2, h3, h4⟩
theorem callV_soundN (R : Rel cx M st a w) {f : Nat} {args : List V} {o : Option Nat} {K : St → Prop} {vals : Array Value} (h : callV G st f args o K) (hd : o.getD 999 < 1000) (ho : ∀ d, o = some d → d < cx.N) (hv : VRs M cx.w0 cx.Ro args vals) : (∃ fn, G.P.funcs[f]? = some fn ∧ (fn.name == "runtime.NumGoroutine") = false ∧ fn.body.isSome = true) ∧ Calls G.P f vals w fun e w' => Sm w w' ∧ BackN cx a o K st.B M w.heap.size e w' := by
  obtain ⟨r, bs', h1, h2, h3, hK⟩ := h
  obtain ⟨args', hF, hl, hvs⟩ := views_ok R (F := noF) (fun k hk => R.roLt hk) (fun b q x A n h1 h2 => R.block_lt h1 h2) M (fun _ _ _ _ h => by cases h) args vals.toList _ h1 (by rw [Array.length_toList]; exact hv.1) (fun k v u hv' hu => hv.2 k v u hv' (by simpa using hu))
  obtain ⟨hfn, hF⟩ := hF.h
  refine ⟨hfn, ?_⟩
  let cx1 : Cx := ⟨w, oldRo w, fun _ _ => False, 0, fun _ => False, M, fun k hk => hk, fun _ _ _ h => h, R.globTo fun k hk => R.roLt hk⟩
  have c := hF cx1 M vals (relB_nil w cx1 rfl M rfl) ⟨by rw [← Array.length_toList]; exact hl, fun k v u hv' hu => hvs k v u hv' (by simpa using hu)⟩
  refine c.mono fun e w' hw => ?_
  obtain ⟨u, M1, rfl, R1, hr⟩ := hw
  have hclosed : ∀ j x, toB bs' j = some x → x.1 = true → False := by
    intro j x hx ht
    have := List.all_eq_true.1 h3 _ (toB_mem hx)
    simp [ht] at this
  have Ri := R.import (d := o.getD 999) hd R1 rfl (fun k hk => hk) (fun k o hk => hk) (fun j x hx _ ht => (hclosed j x hx ht).elim)
  exact ⟨R1.keep, back_putN Ri ho (hr.cleaned h2 _ (fun b q hb => by simp only [resId_name hd hb])) hK (import_nar R1 rfl (fun k hk => hk))⟩
theorem callR_soundN (R : Rel cx M st a w) {f : Nat} {args : List V} {o : Option Nat} {K : St → Prop} {vals : Array Value} (h : callR G st f args o K) (hd : o.getD 999 < 1000) (ho : ∀ d, o = some d → d < cx.N) (hv : VRs M cx.w0 cx.Ro args vals) : (∃ fn, G.P.funcs[f]? = some fn ∧ (fn.name == "runtime.NumGoroutine") = false ∧ fn.body.isSome = true) ∧ Calls G.P f vals w fun e w' => Sm w w' ∧ BackN cx a o K st.B M w.heap.size e w' := by
  obtain ⟨r, bs', h1, hF, h2, h3, hK⟩ := h
  obtain ⟨hfn, hF⟩ := hF.h
  refine ⟨hfn, ?_⟩
  have hc : ∀ k o, cx.Ro k → w.cell? ⟨k, o, none⟩ = cx.w0.cell? ⟨k, o, none⟩ := fun k o hk => R.roCell hk
  let cx1 : Cx := ⟨w, cx.Ro, fun _ _ => False, 0, fun _ => False, M, fun k hk => R.roLt hk, fun _ _ _ h => h, R.globTo fun k hk => hk⟩
  have c := hF cx1 M vals (relB_nil w cx1 rfl M rfl) ⟨hv.1, fun k v u hv' hu => (hv.2 k v u hv' hu).roTo (isRoL_get h1 k v hv') hc⟩
  refine c.mono fun e w' hw => ?_
  obtain ⟨u, M1, rfl, R1, hr⟩ := hw
  have hren : ∀ j x, toB bs' j = some x → 500 ≤ j → x.1 = true → ∀ i k v, cellAt x.2.2 i k = some v → names (fun _ => false) v = true := by
    intro j x hx _ ht i k v hc'
    have := List.all_eq_true.1 h3 _ (toB_mem hx)
    simp only [ht, Bool.not_true, Bool.false_or] at this
    unfold cellAt at hc'
    cases hy : x.2.2[i]? with
    | none => rw [hy] at hc'; cases hc'
    | some y =>
      rw [hy] at hc'
      exact namesL_get (List.all_eq_true.1 this y (List.mem_of_getElem? hy)) k v hc'
  have tr : ∀ (ok : Nat → Bool) (v : V) (u : Value), names ok v = true → (∀ b, ok b = true → 500 ≤ b) → VR M1 w cx.Ro v u → VR (fun b q => match resId (o.getD 999) b with | some j => M1 j q | none => M b q) cx.w0 cx.Ro (ren (resName (o.getD 999)) v) u := by
    intro ok v u hn hok hv'
    exact hv'.renamed hn _ (fun b q hb => by simp only [resId_name hd (hok b hb)]) (fun v u h => Rd.mono (fun _ hk => hk) (fun k o hk => (hc k o hk).symm) h) (fun _ hk => hk) (fun k o hk => (hc k o hk).symm)
  have Ri := R.import (d := o.getD 999) hd R1 rfl (fun k hk => hk) (fun k o hk => hk) (fun j x hx hj ht i k v u hc' hv' => by
    have hn := hren j x hx hj ht i k v hc'
    have := tr _ v u hn (fun b hb => by cases hb) hv'
    rw [ren_id v hn] at this
    exact this)
  exact ⟨R1.keep, back_putN Ri ho (tr _ r u h2 (fun b hb => of_decide_eq_true hb) hr) hK (import_nar R1 rfl (fun k hk => hk))⟩
theorem opm_sound (R : Rel cx M st a w) {o : Oper} {K : St → Prop} (hN : ∀ d, o.dst = some d → d < cx.N ∧ d < 999) (h : opm G o st K) : runs G.P o a w (Sm w) fun a' w' => ∃ M' st', K st' ∧ Rel cx M' st' a' w' := by
  have quiet : qwp G.tt st.T st.B o.op (valK o.dst st K) → runs G.P o a w (Sm w) fun a' w' => ∃ M' st', K st' ∧ Rel cx M' st' a' w' := fun h => by
    obtain ⟨v, u, h1, h2, h3⟩ := qwp_sound R h
    obtain ⟨st', R', hk⟩ := valK_rel R (fun d h => (hN d h).1) h1 h3
    unfold runs
    rw [h2 w (Kp.refl _ _)]
    exact ⟨Kp.refl _ _, M, st', hk, R'⟩
  have hd' : o.dst.getD 999 < 1000 := by cases ho2 : o.dst with
    | none => decide
    | some d => exact Nat.lt_of_lt_of_le (hN d ho2).2 (by decide)
  unfold opm at h
  simp only [chk_iff, Array.isEmpty_iff] at h
  split at h
  · rename_i c ho
    have args : VRs M cx.w0 cx.Ro (c.args.toList.map (ev st.T)) (c.args.map a.eval) := by
      refine ⟨by simp, fun k v u hv hu => ?_⟩
      simp only [List.getElem?_map, Array.getElem?_toList, Array.getElem?_map, Option.map_eq_some_iff] at hv hu
      obtain ⟨x, hx, rfl⟩ := hv
      obtain ⟨x', hx', rfl⟩ := hu
      rw [hx] at hx'; cases hx'
      exact R.ev_ _
    have call : ∀ g cs f, c.callee = .value f → a.eval f = .func (.func g) #[] cs → ∀ vs, VRs M cx.w0 cx.Ro vs (c.args.map a.eval ++ cs) → (callV G st g vs o.dst K ∨ callR G st g vs o.dst K) → runs G.P o a w (Sm w) fun a' w' => ∃ M' st', K st' ∧ Rel cx M' st' a' w' := by
      intro g cs f hc hf vs hvs hcall
      have both : (∃ fn, G.P.funcs[g]? = some fn ∧ (fn.name == "runtime.NumGoroutine") = false ∧ fn.body.isSome = true) ∧ Calls G.P g (c.args.map a.eval ++ cs) w fun e w' => Sm w w' ∧ Back cx a o.dst K e w' := by
        rcases hcall with h | h
        · exact callV_soundM R h hd' (fun d h => (hN d h).1) hvs
        · exact callR_soundM R h hd' (fun d h => (hN d h).1) hvs
      obtain ⟨⟨fn, f1, f2, f3⟩, hC⟩ := both
      unfold runs
      rw [run_call_value G.P o c ho f hc g cs hf f1 f2 f3]
      refine hC.mono fun e w' ⟨hs, u, M', st', he, hk, R'⟩ => ⟨u, he, hs, M', st', hk, R'⟩
    split at h
    · rename_i f hc
      have hf := R.ev_ f
      generalize ev st.T f = ef at h hf
      split at h
      · obtain ⟨rfl, rfl, h⟩ := h
        refine call _ #[] f hc hf.lit_ _ ?_ h
        simpa using args
      · rename_i g cs
        generalize hg : a.eval f = gv at hf
        cases hf with
        | @fn _ _ us h1 h2 =>
          refine call g us f hc hg _ ?_ h
          refine ⟨by simp [h1], fun k v u hv hu => ?_⟩
          by_cases hk : k < (c.args.toList.map (ev st.T)).length
          · rw [List.getElem?_append_left hk] at hv
            rw [Array.getElem?_append_left (by simpa using hk)] at hu
            exact args.2 k v u hv hu
          · rw [List.getElem?_append_right (by omega)] at hv
            rw [Array.getElem?_append_right (by simpa using hk)] at hu
            have e1 : (c.args.toList.map (ev st.T)).length = (c.args.map a.eval).size := by simp
            rw [e1] at hv
            exact h2 _ v u hv hu
      · exact h.elim
    · exact quiet h
  · rename_i t len parts ho
    split at h
    · rename_i d hd
      obtain ⟨r, w1, M', st', x', run, hK, R', hv, hs, _⟩ := bslw_sound R (by omega) h
      unfold runs
      have : (execOp a.eval o).run G.P w = .ok (.value r) w1 := by simp [execOp, ho, run]
      rw [this]
      refine ⟨hs, M', _, hK, ?_⟩
      rw [hd]
      exact R'.put d (hN d hd).1 hv
    · exact h.elim
  · exact quiet h
theorem tail_sound {ops : Array Oper} {K : St → Prop} {Q : Exit → Act → World → Prop} (hN : ∀ o ∈ ops.toList, ∀ d, o.dst = some d → d < cx.N ∧ d < 999) (hQ : Next' cx K (Q .normal)) : ∀ (n k : Nat) (listed : Array Bool) (st : St) (M : Mp) (a : Act) (w : World), k + n = ops.size → tailGo .any ops n k listed = true → Rel cx M st a w → owp G ops (ops.toList.drop k) st K →
    wpAny G.P .any ops Q n listed a w := by
  intro n
  induction n with
  | zero =>
    intro k listed st M a w hk hB R h
    rw [List.drop_of_length_le (by rw [Array.length_toList]; omega)] at h
    exact ⟨by simpa [tailGo] using hB, hQ _ _ _ _ h R⟩
  | succ n ih =>
    intro k listed st M a w hk hB R h
    simp only [tailGo, Bool.and_eq_true, beq_iff_eq] at hB
    obtain ⟨hr, hB⟩ := hB
    have hlt : k < ops.toList.length := by rw [Array.length_toList]; omega
    rw [List.drop_eq_getElem_cons hlt] at h
    have hko : ops[k]? = some ops.toList[k] := by rw [← Array.getElem?_toList]; exact List.getElem?_eq_getElem hlt
    generalize ops.toList[k] = o at h hko
    have ho := hN o (by have := Array.mem_of_getElem? hko; simpa using this)
    refine ⟨fun h0 => (by rw [h0] at hr; cases hr), fun i hi => ?_⟩
    rw [hr] at hi
    obtain rfl : i = k := by simpa using hi
    have next : Next' cx (fun st' => owp G ops (ops.toList.drop (i + 1)) st' K) (wpAny G.P .any ops Q n (listed.setIfInBounds i true)) := fun M st a w hk' R => ih (i + 1) _ st M a w (by omega) hB R hk'
    unfold wpOp
    simp only [hko]
    unfold owp at h
    cases hg : o.guard with
    | none =>
      rw [hg] at h
      simp only at h
      rw [if_pos (by simp [Region.wanted, hg])]
      exact .inl (opw_sound R ho h next)
    | some jw =>
      obtain ⟨j, want⟩ := jw
      rw [hg] at h
      simp only at h
      split at h
      · exact h.elim
      · rename_i d hd
        split at h
        · rename_i t ht
          obtain ⟨h1, h2⟩ := guardw_get ht h
          have hy := yields_of R hN hd ht
          by_cases htw : t = want
          · rw [if_pos (by simp [Region.wanted, hg, hy, htw])]
            exact .inl (opw_sound R ho (h1 htw) next)
          · rw [if_neg (by simp [Region.wanted, hg, hy, htw])]
            exact upon_val R (fun d h => (ho d h).1) (h2 (by cases t <;> cases want <;> first | rfl | exact absurd rfl htw)) next (.lit _)
        · rename_i t ht
          have hy := yields_none R hN hd ht
          have hw : ¬ Region.wanted o (yielded ops a.tmps) = true := by simp [Region.wanted, hg, hy]
          rw [if_neg hw]
          exact upon_val R (fun d h => (ho d h).1) h next (.lit _)
        · exact h.elim
theorem xwp_sound {ops : Array Oper} {K : St → Prop} {Q : Exit → Act → World → Prop} {t : Nat} (hN : ∀ o ∈ ops.toList, ∀ d, o.dst = some d → d < cx.N ∧ d < 999) (hQ : Next' cx K (Q .normal)) (ht : t ≤ ops.size) (hs : Region.noSelect ops = true) (hw : waitB .any ops t = true) : ∀ (s : List (Nat × Bool)) (listed : Array Bool) (st : St) (M : Mp) (a : Act) (w : World), schedGo .any ops t s listed = true → Down .any ops listed → Rel cx M st a w →
    xwp G ops s st (fun st' => owp G ops (ops.toList.drop t) st' K) → wpAnyT G.P .any ops (Sm w) Q t (s.length + (ops.size - t)) listed a w := by
  intro s
  induction s with
  | nil =>
    intro listed st M a w hB hdn R h
    simp only [schedGo] at hB
    have := tail_sound hN hQ (ops.size - t) t listed st M a w (by omega) hB R h
    simp only [List.length_nil, Nat.zero_add]
    generalize ops.size - t = n at *
    cases n with
    | zero => exact this
    | succ n =>
      simp only [tailGo, Bool.and_eq_true, beq_iff_eq] at hB
      refine ⟨this.1, fun i hi => ⟨fun hlt => ?_, fun _ => this.2 i hi⟩⟩
      rw [hB.1] at hi
      have : i = t := by simpa using hi
      omega
  | cons y r ih =>
    obtain ⟨i, fl⟩ := y
    intro listed st M a w hB hdn R h
    simp only [schedGo, Bool.and_eq_true, decide_eq_true_eq] at hB
    obtain ⟨⟨hit, hfl⟩, hB⟩ := hB
    have hmem : i ∈ Region.ready .any ops listed := by
      cases fl with
      | true => simp only [Bool.and_eq_true] at hfl; simpa using hfl.1
      | false => simp only [beq_iff_eq] at hfl; rw [hfl]; simp
    have hdn' := down_set hdn hmem
    simp only [xwp] at h
    split at h
    · exact h.elim
    · rename_i o hio
      have ho := hN o (by have := Array.mem_of_getElem? hio; simpa using this)
      rw [show ((i, fl) :: r).length + (ops.size - t) = (r.length + (ops.size - t)) + 1 by simp only [List.length_cons]; omega]
      -- how the two kinds go on
      have float : fl = true → ∀ u, YieldsS G.P ops (Sm w) o u a → (∀ st', xwp G ops r st' (fun st' => owp G ops (ops.toList.drop t) st' K) → Rel cx M st' (a.put o.dst u) w → True) → ∀ st', xwp G ops r st' (fun st' => owp G ops (ops.toList.drop t) st' K) → Rel cx M st' (a.put o.dst u) w → wpAnyT G.P .any ops (Sm w) Q t ((r.length + (ops.size - t)) + 1) listed a w := by
        intro hf u hy _ st' hx R'
        subst hf
        simp only [Bool.and_eq_true] at hfl
        exact wpAnyT_first hio hit (Region.noSelect_spec hs) (waitB_spec hw hit) _ listed a w hdn (Kp.refl _ _) (Region.free_spec hio hfl.2) (by simpa using hfl.1) hy (ih _ st' M _ w hB hdn' R' hx)
      have single : fl = false → mOp G.P ops (Sm w) i (wpAnyT G.P .any ops (Sm w) Q t (r.length + (ops.size - t)) (listed.setIfInBounds i true)) a w → wpAnyT G.P .any ops (Sm w) Q t ((r.length + (ops.size - t)) + 1) listed a w := by
        intro hf hm
        subst hf
        simp only [beq_iff_eq] at hfl
        refine ⟨fun h0 => (by rw [h0] at hfl; cases hfl), fun j hj => ?_⟩
        rw [hfl] at hj
        obtain rfl : j = i := by simpa using hj
        exact ⟨fun _ => hm, fun hge => absurd hit (Nat.not_lt.2 hge)⟩
      have made : ∀ (hwt : Region.wanted o (yielded ops a.tmps) = true), opm G o st (fun st' => xwp G ops r st' (fun st' => owp G ops (ops.toList.drop t) st' K)) → mOp G.P ops (Sm w) i (wpAnyT G.P .any ops (Sm w) Q t (r.length + (ops.size - t)) (listed.setIfInBounds i true)) a w := by
        intro hwt hm
        unfold mOp
        simp only [hio]
        rw [if_pos hwt]
        have hr := opm_sound R ho hm
        unfold runs at *
        generalize (execOp a.eval o).run G.P w = res at *
        have go : ∀ u w', Sm w w' → (∃ M' st', xwp G ops r st' (fun st' => owp G ops (ops.toList.drop t) st' K) ∧ Rel cx M' st' (a.put o.dst u) w') → wpAnyT G.P .any ops (Sm w) Q t (r.length + (ops.size - t)) (listed.setIfInBounds i true) (a.put o.dst u) w' := by
          intro u w' hsm hx
          obtain ⟨M', st', hx, R'⟩ := hx
          exact wpAnyT_class (fun w2 h2 => hsm.trans h2 (fun _ _ _ h => h)) _ _ _ _ (ih _ st' M' _ w' hB hdn' R' hx)
        cases res with
        | ok n w' =>
          cases n <;> simp only [runsUpon] at hr ⊢
          · exact ⟨hr.1, go _ _ hr.1 hr.2⟩
          · exact ⟨hr.1, go _ _ hr.1 hr.2⟩
          · exact hr.mono fun e w'' ⟨u, he, hc, hx⟩ => ⟨u, he, hc, go _ _ hc hx⟩
        | halt x w' => simp only [runsUpon] at hr
      have step : ∀ (hwt : Region.wanted o (yielded ops a.tmps) = true), xstep G fl o st (fun st' => xwp G ops r st' (fun st' => owp G ops (ops.toList.drop t) st' K)) → wpAnyT G.P .any ops (Sm w) Q t ((r.length + (ops.size - t)) + 1) listed a w := by
        intro hwt h
        cases hf : fl with
        | true =>
          rw [hf] at h
          obtain ⟨v, u, h1, h2, h3⟩ := tellw_sound R h
          obtain ⟨st', R', hk⟩ := valK_rel R (fun d h => (ho d h).1) h1 h3
          exact float hf u (.inl ⟨hwt, h2⟩) (fun _ _ _ => trivial) st' hk R'
        | false =>
          rw [hf] at h
          exact single hf (made hwt h)
      have skipped : ∀ (hwt : ¬ Region.wanted o (yielded ops a.tmps) = true) (st' : St), xwp G ops r st' (fun st' => owp G ops (ops.toList.drop t) st' K) → Rel cx M st' (a.put o.dst undef) w → wpAnyT G.P .any ops (Sm w) Q t ((r.length + (ops.size - t)) + 1) listed a w := by
        intro hwt st' hk R'
        cases hf : fl with
        | true => exact float hf undef (.inr ⟨by simpa using hwt, rfl⟩) (fun _ _ _ => trivial) st' hk R'
        | false =>
          refine single hf ?_
          unfold mOp
          simp only [hio]
          rw [if_neg hwt]
          exact ih _ st' M _ w hB hdn' R' hk
      cases hg : o.guard with
      | none =>
        rw [hg] at h
        simp only at h
        exact step (by simp [Region.wanted, hg]) h
      | some jw =>
        obtain ⟨j, want⟩ := jw
        rw [hg] at h
        simp only at h
        split at h
        · exact h.elim
        · rename_i d hd
          split at h
          · rename_i tt htt
            obtain ⟨h1, h2⟩ := guardw_get htt h
            have hy := yields_of R hN hd htt
            by_cases htw : tt = want
            · exact step (by simp [Region.wanted, hg, hy, htw]) (h1 htw)
            · have hwt : ¬ Region.wanted o (yielded ops a.tmps) = true := by simp [Region.wanted, hg, hy, htw]
              obtain ⟨st', R', hk⟩ := valK_rel R (fun d h => (ho d h).1) (h2 (by cases tt <;> cases want <;> first | rfl | exact absurd rfl htw)) (.lit _)
              exact skipped hwt st' hk R'
          · rename_i tt htt
            have hy := yields_none R hN hd htt
            have hwt : ¬ Region.wanted o (yielded ops a.tmps) = true := by simp [Region.wanted, hg, hy]
            obtain ⟨st', R', hk⟩ := valK_rel R (fun d h => (ho d h).1) h (.lit _)
            exact skipped hwt st' hk R'
          · exact h.elim
/-- A call in a region that draws. -/
def opc (G : Pg) (o : Oper) (st : St) (K : St → Prop) : Prop :=
  match o.op with
  | .call c => (match c.callee with
    | .value f => (match ev st.T f with
      | .lit (.func (.func g) p c') => chk p.isEmpty (chk c'.isEmpty (callV G st g (c.args.toList.map (ev st.T)) o.dst K ∨ callR G st g (c.args.toList.map (ev st.T)) o.dst K))
      | .fn g cs => callV G st g (c.args.toList.map (ev st.T) ++ cs) o.dst K ∨ callR G st g (c.args.toList.map (ev st.T) ++ cs) o.dst K
      | _ => False)
    | _ => False)
  | .buildSlice t len parts => (match o.dst with
    | some d => chk (litParts st.T parts.toList) (bslw G.tt st (1000 + d) t len parts.toList fun st' v => K { T := upd st'.T d v, B := st'.B })
    | none => False)
  | _ => False
theorem opc_sound (R : Rel cx M st a w) {o : Oper} {K : St → Prop} (hN : ∀ d, o.dst = some d → d < cx.N ∧ d < 999) (h : opc G o st K) : runs G.P o a w (Sm w) fun a' w' => ∃ M' st', K st' ∧ Rel cx M' st' a' w' ∧ Nar st'.B M' st.B M w.heap.size := by
  have hd' : o.dst.getD 999 < 1000 := by cases ho2 : o.dst with
    | none => decide
    | some d => exact Nat.lt_of_lt_of_le (hN d ho2).2 (by decide)
  unfold opc at h
  simp only [chk_iff, Array.isEmpty_iff] at h
  split at h
  · rename_i c ho
    have args : VRs M cx.w0 cx.Ro (c.args.toList.map (ev st.T)) (c.args.map a.eval) := by
      refine ⟨by simp, fun k v u hv hu => ?_⟩
      simp only [List.getElem?_map, Array.getElem?_toList, Array.getElem?_map, Option.map_eq_some_iff] at hv hu
      obtain ⟨x, hx, rfl⟩ := hv
      obtain ⟨x', hx', rfl⟩ := hu
      rw [hx] at hx'; cases hx'
      exact R.ev_ _
    have call : ∀ g cs f, c.callee = .value f → a.eval f = .func (.func g) #[] cs → ∀ vs, VRs M cx.w0 cx.Ro vs (c.args.map a.eval ++ cs) → (callV G st g vs o.dst K ∨ callR G st g vs o.dst K) → runs G.P o a w (Sm w) fun a' w' => ∃ M' st', K st' ∧ Rel cx M' st' a' w' ∧ Nar st'.B M' st.B M w.heap.size := by
      intro g cs f hc hf vs hvs hcall
      have both : (∃ fn, G.P.funcs[g]? = some fn ∧ (fn.name == "runtime.NumGoroutine") = false ∧ fn.body.isSome = true) ∧ Calls G.P g (c.args.map a.eval ++ cs) w fun e w' => Sm w w' ∧ BackN cx a o.dst K st.B M w.heap.size e w' := by
        rcases hcall with h | h
        · exact callV_soundN R h hd' (fun d h => (hN d h).1) hvs
        · exact callR_soundN R h hd' (fun d h => (hN d h).1) hvs
      obtain ⟨⟨fn, f1, f2, f3⟩, hC⟩ := both
      unfold runs
      rw [run_call_value G.P o c ho f hc g cs hf f1 f2 f3]
      refine hC.mono fun e w' ⟨hs, u, M', st', he, hk, R', hn⟩ => ⟨u, he, hs, M', st', hk, R', hn⟩
    split at h
    · rename_i f hc
      have hf := R.ev_ f
      generalize ev st.T f = ef at h hf
      split at h
      · obtain ⟨rfl, rfl, h⟩ := h
        refine call _ #[] f hc hf.lit_ _ ?_ h
        simpa using args
      · rename_i g cs
        generalize hg : a.eval f = gv at hf
        cases hf with
        | @fn _ _ us h1 h2 =>
          refine call g us f hc hg _ ?_ h
          refine ⟨by simp [h1], fun k v u hv hu => ?_⟩
          by_cases hk : k < (c.args.toList.map (ev st.T)).length
          · rw [List.getElem?_append_left hk] at hv
            rw [Array.getElem?_append_left (by simpa using hk)] at hu
            exact args.2 k v u hv hu
          · rw [List.getElem?_append_right (by omega)] at hv
            rw [Array.getElem?_append_right (by simpa using hk)] at hu
            have e1 : (c.args.toList.map (ev st.T)).length = (c.args.map a.eval).size := by simp
            rw [e1] at hv
            exact h2 _ v u hv hu
      · exact h.elim
    · exact h.elim
  · rename_i t len parts ho
    split at h
    · rename_i d hd
      obtain ⟨r, w1, M', st', x', run, hK, R', hv, hs, hn⟩ := bslw_sound R (by omega) h.2
      unfold runs
      have : (execOp a.eval o).run G.P w = .ok (.value r) w1 := by simp [execOp, ho, run]
      rw [this]
      refine ⟨hs, M', _, hK, ?_, hn h.1⟩
      rw [hd]
      exact R'.put d (hN d hd).1 hv
    · exact h.elim
  · exact h.elim
/-- An append in a region that draws: where a row ends. -/
def opz (G : Pg) (o : Oper) (st : St) (K : St → Prop) : Prop :=
  match o.op with
  | .call c => (match c.callee with
    | .builtin .append => (match c.args.toList, c.argTypes.toList, o.dst with
      | [s, x], [t, t2], some d => tailz st (ev st.T s) ∧ appw G.tt st (1000 + d) t t2 (ev st.T s) (ev st.T x) fun st' v => K { T := upd st'.T d v, B := st'.B }
      | _, _, _ => False)
    | _ => False)
  | _ => False
theorem opz_sound (R : Rel cx M st a w) {o : Oper} {K : St → Prop} (hN : ∀ d, o.dst = some d → d < cx.N ∧ d < 999) (h : opz G o st K) : runs G.P o a w (Ks st.B M w) fun a' w' => ∃ M' st', K st' ∧ Rel cx M' st' a' w' := by
  unfold opz at h
  split at h
  · rename_i c ho
    split at h
    · rename_i hc
      split at h
      · rename_i s x t t2 d ha ht hd
        have hdN := (hN d hd).1
        obtain ⟨callee, cargs, types⟩ := c
        simp only at hc ha ht
        subst hc
        obtain rfl : cargs = #[s, x] := by rw [← Array.toList_inj]; exact ha
        obtain rfl : types = #[t, t2] := by rw [← Array.toList_inj]; exact ht
        obtain ⟨r, w1, M', st', v, run, hK, R', hv, hks⟩ := appw_sound (ty := o.type) R (by omega) (by omega) h.2 (R.ev_ s) (R.ev_ x)
        unfold runs
        have : (execOp a.eval o).run G.P w = .ok (.value r) w1 := by simp [execOp, ho, resolve, invoke, builtin, run]
        rw [this]
        refine ⟨hks h.1, M', _, hK, ?_⟩
        rw [hd]
        exact R'.put d hdN hv
      · exact h.elim
    · exact h.elim
  · exact h.elim
def isApp (o : Oper) : Bool := match o.op with
  | .call c => (match c.callee with
    | .builtin .append => true
    | _ => false)
  | _ => false
/-- An append in a region that draws where nothing is taken first that reads memory; a row that was handed in is moved first. -/
def opy (G : Pg) (o : Oper) (st : St) (K : St → Prop) : Prop :=
  match o.op with
  | .call c => (match c.callee with
    | .builtin .append => (match c.args.toList, c.argTypes.toList, o.dst with
      | [s, x], [t, t2], some d => (match ev st.T x with
        | .sl e [] sz 0 len => (match decide (1000 ≤ e) with
          | true => appw G.tt st (1000 + d) t t2 (ev st.T s) (.sl e [] sz 0 len) fun st' v => K { T := upd st'.T d v, B := st'.B }
          | false => (match st.B e with
            | some (false, s2, E0) => appw G.tt (takeSt st e (2000 + d) s2 E0) (1000 + d) t t2 (kill (twoIs e (2000 + d)) (ev st.T s)) (.sl (2000 + d) [] sz 0 len) fun st' v => K { T := upd st'.T d v, B := st'.B }
            | _ => False))
        | v => appw G.tt st (1000 + d) t t2 (ev st.T s) v fun st' v => K { T := upd st'.T d v, B := st'.B })
      | _, _, _ => False)
    | _ => False)
  | _ => False
theorem VR.slMoved {M M1 : Mp} {wd : World} {Ro : Nat → Prop} {e d1 sz off len : Nat} {u : Value} (h : VR M wd Ro (.sl e [] sz off len) u) (m : ∀ r, M1 d1 r = M e r) : VR M1 wd Ro (.sl d1 [] sz off len) u := by
  cases h with
  | sl c1 c2 => exact .sl c1 (by rw [m]; exact c2)
theorem opy_sound (R : Rel cx M st a w) {o : Oper} {K : St → Prop} (hN : ∀ d, o.dst = some d → d < cx.N ∧ d < 999) (h : opy G o st K) : runs G.P o a w (fun _ => True) fun a' w' => ∃ M' st', K st' ∧ Rel cx M' st' a' w' := by
  unfold opy at h
  split at h
  · rename_i c ho
    split at h
    · rename_i hc
      split at h
      · rename_i s x t t2 d ha ht hd
        have hdN := (hN d hd).1
        have hd9 := (hN d hd).2
        obtain ⟨callee, cargs, types⟩ := c
        simp only at hc ha ht
        subst hc
        obtain rfl : cargs = #[s, x] := by rw [← Array.toList_inj]; exact ha
        obtain rfl : types = #[t, t2] := by rw [← Array.toList_inj]; exact ht
        have fin : (∃ r w1 M' st' v, (Builtin.append_ #[t, t2] o.type #[a.eval s, a.eval x]).run G.P w = .ok r w1 ∧ K { T := upd st'.T d v, B := st'.B } ∧ Rel cx M' st' a w1 ∧ VR M' cx.w0 cx.Ro v r) → runs G.P o a w (fun _ => True) fun a' w' => ∃ M' st', K st' ∧ Rel cx M' st' a' w' := by
          rintro ⟨r, w1, M', st', v, run, hK, R', hv⟩
          unfold runs
          have : (execOp a.eval o).run G.P w = .ok (.value r) w1 := by simp [execOp, ho, resolve, invoke, builtin, run]
          rw [this]
          refine ⟨trivial, M', _, hK, ?_⟩
          rw [hd]
          exact R'.put d hdN hv
        have hx := R.ev_ x
        have hs := R.ev_ s
        generalize ev st.T x = vx at h hx
        split at h
        · rename_i e sz len
          split at h
          · obtain ⟨r, w1, M', st', v, run, hK, R', hv, _⟩ := appw_sound (ty := o.type) R (by omega) (by omega) h hs hx
            exact fin ⟨r, w1, M', st', v, run, hK, R', hv⟩
          · rename_i he
            have he := of_decide_eq_false he
            split at h
            · rename_i s2 E0 hB
              obtain ⟨M1, R1, m0, m1⟩ := R.take (d0 := 2000 + d) hB (by omega) (by omega)
              obtain ⟨r, w1, M', st', v, run, hK, R', hv, _⟩ := appw_sound (ty := o.type) R1 (by omega) (by omega) h (hs.struck m1) (hx.slMoved m0)
              exact fin ⟨r, w1, M', st', v, run, hK, R', hv⟩
            · exact h.elim
        · obtain ⟨r, w1, M', st', v, run, hK, R', hv, _⟩ := appw_sound (ty := o.type) R (by omega) (by omega) h hs hx
          exact fin ⟨r, w1, M', st', v, run, hK, R', hv⟩
      · exact h.elim
    · exact h.elim
  · exact h.elim
/-- A step where nothing is taken first that reads memory: whatever leaves a world. -/
def opx (G : Pg) (ops : Array Oper) (i : Nat) (st : St) (K : St → Prop) : Prop := match ops[i]? with
  | none => False
  | some o => match o.guard with
    | none => (match isApp o with
      | true => opy G o st K
      | false => opm G o st K)
    | some _ => False
/-- A step that makes; of appends one alone. -/
def stp (G : Pg) (ops : Array Oper) (b : Bool) (i : Nat) (st : St) (K : Bool → St → Prop) : Prop := match ops[i]? with
  | none => False
  | some o => match o.guard with
    | none => (match isApp o with
      | true => (match b with
        | true => False
        | false => opz G o st (K true))
      | false => opc G o st (K b))
    | some _ => False
/-- What is made, one behind the other; at most one append. -/
def bwp (G : Pg) (ops : Array Oper) : Sch → Bool → St → (St → Prop) → Prop
  | .nil, _, st, K => K st
  | .tell _ _, _, st, K => False
  | .one i r, b, st, K => stp G ops b i st fun b' st' => bwp G ops r b' st' K
  | .two i j r s, b, st, K => (stp G ops b i st fun b' st' => bwp G ops r b' st' K) ∧ (stp G ops b j st fun b' st' => bwp G ops s b' st' K)
  | .three _ _ _ _ _ _, _, _, _ => False
theorem twoI {G : Pg} {ops : Array Oper} {b : Bool} {i j : Nat} {st : St} {K K' : Bool → St → Prop} (h : stp G ops b i st K) (h' : stp G ops b j st K') : stp G ops b i st K ∧ stp G ops b j st K' := ⟨h, h'⟩
theorem threeX {G : Pg} {ops : Array Oper} {i j k : Nat} {st : St} {K K' K'' : St → Prop} (h : opx G ops i st K) (h' : opx G ops j st K') (h'' : opx G ops k st K'') : opx G ops i st K ∧ opx G ops j st K' ∧ opx G ops k st K'' := ⟨h, h', h''⟩
theorem twoX {G : Pg} {ops : Array Oper} {i j : Nat} {st : St} {K K' : St → Prop} (h : opx G ops i st K) (h' : opx G ops j st K') : opx G ops i st K ∧ opx G ops j st K' := ⟨h, h'⟩
/-- First all that tells. -/
def awp (G : Pg) (ops : Array Oper) : Sch → St → (St → Prop) → Prop
  | .tell i r, st, K => (match ops[i]? with
    | none => False
    | some o => match o.guard with
      | none => qwp G.tt st.T st.B o.op (valK o.dst st fun st' => awp G ops r st' K)
      | some _ => False)
  | s, st, K => bwp G ops s false st K
/-- Where nothing that is taken first reads memory. -/
def fwp (G : Pg) (ops : Array Oper) : Sch → St → (St → Prop) → Prop
  | .nil, st, K => K st
  | .tell i r, st, K => (match ops[i]? with
    | none => False
    | some o => match o.guard with
      | none => chk (notLoad o.op) (qwp G.tt st.T st.B o.op (valK o.dst st fun st' => fwp G ops r st' K))
      | some _ => False)
  | .one i r, st, K => opx G ops i st fun st' => fwp G ops r st' K
  | .two i j r s, st, K => (opx G ops i st fun st' => fwp G ops r st' K) ∧ (opx G ops j st fun st' => fwp G ops s st' K)
  | .three i j k r s u, st, K => (opx G ops i st fun st' => fwp G ops r st' K) ∧ (opx G ops j st fun st' => fwp G ops s st' K) ∧ (opx G ops k st fun st' => fwp G ops u st' K)
theorem valK_relB (R : Rel cx M st a w) {o : Oper} {K : St → Prop} {v : V} {u : Value} (hN : ∀ d, o.dst = some d → d < cx.N) (h : valK o.dst st K v) (hv : VR M cx.w0 cx.Ro v u) : ∃ st', st'.B = st.B ∧ Rel cx M st' (a.put o.dst u) w ∧ K st' := by
  unfold valK at h
  rw [force_eq, putK_eq] at h
  cases hd : o.dst with
  | none => rw [hd] at h; exact ⟨st, rfl, R, h⟩
  | some d => rw [hd] at h; exact ⟨{ T := upd st.T d v, B := st.B }, rfl, R.put d (hN d hd) hv, h⟩
theorem nilT_sound {ops : Array Oper} {K : St → Prop} {Q : Exit → Act → World → Prop} {t : Nat} {C : World → Prop} (hN : ∀ o ∈ ops.toList, ∀ d, o.dst = some d → d < cx.N ∧ d < 999) (hQ : Next' cx K (Q .normal)) (ht : t ≤ ops.size) {listed : Array Bool} (hB : tailGo .any ops (ops.size - t) t listed = true) (R : Rel cx M st a w) (h : owp G ops (ops.toList.drop t) st K) : wpAnyT G.P .any ops C Q t (ops.size - t) listed a w := by
  have := tail_sound hN hQ (ops.size - t) t listed st M a w (by omega) hB R h
  generalize ops.size - t = n at *
  cases n with
  | zero => exact this
  | succ n =>
    simp only [tailGo, Bool.and_eq_true, beq_iff_eq] at hB
    refine ⟨this.1, fun i hi => ⟨fun hlt => ?_, fun _ => this.2 i hi⟩⟩
    rw [hB.1] at hi
    have : i = t := by simpa using hi
    omega
theorem mOp_of {ops : Array Oper} {C : World → Prop} {i : Nat} {o : Oper} {Kn : Act → World → Prop} (hio : ops[i]? = some o) (hg : o.guard = none) (h : runs G.P o a w C Kn) : mOp G.P ops C i Kn a w := by
  unfold mOp
  simp only [hio]
  rw [if_pos (by simp [Region.wanted, hg])]
  exact h
theorem stp_sound {ops : Array Oper} {B0 : Bs} {M0 : Mp} {w0 : World} (R : Rel cx M st a w) {b : Bool} {i : Nat} {K : Bool → St → Prop} (hN : ∀ o ∈ ops.toList, ∀ d, o.dst = some d → d < cx.N ∧ d < 999) (hks : Ks B0 M0 w0 w) (hnar : b = false → Nar st.B M B0 M0 w0.heap.size) (h : stp G ops b i st K)
    {Kn : Act → World → Prop} (hn : ∀ b' M' st' a' w', K b' st' → Rel cx M' st' a' w' → Ks B0 M0 w0 w' → (b' = false → Nar st'.B M' B0 M0 w0.heap.size) → Kn a' w') : mOp G.P ops (Ks B0 M0 w0) i Kn a w := by
  unfold stp at h
  split at h
  · exact h.elim
  · rename_i o hio
    have ho := hN o (by have := Array.mem_of_getElem? hio; simpa using this)
    split at h
    · rename_i hg
      split at h
      · split at h
        · exact h.elim
        · refine mOp_of hio hg (runs_mono (fun u w' hc hk => ?_) (opz_sound R ho h))
          obtain ⟨M', st', hk, R'⟩ := hk
          have hks' : Ks B0 M0 w0 w' := hks.trans hc fun k o hk hs => hnar rfl k o hk hs
          exact ⟨hks', hn _ _ _ _ _ hk R' hks' (fun h => by cases h)⟩
      · refine mOp_of hio hg (runs_mono (fun u w' hc hk => ?_) (opc_sound R ho h))
        obtain ⟨M', st', hk, R', hn'⟩ := hk
        have hks' : Ks B0 M0 w0 w' := hks.trans hc fun _ _ _ h => h.elim
        exact ⟨hks', hn _ _ _ _ _ hk R' hks' (fun hb k o hk hs => hnar hb k o hk (hn' k o (Nat.lt_of_lt_of_le hk hks.size) hs))⟩
    · exact h.elim
theorem bwp_sound {ops : Array Oper} {K : St → Prop} {Q : Exit → Act → World → Prop} {t : Nat} {B0 : Bs} {M0 : Mp} {w0 : World} (hN : ∀ o ∈ ops.toList, ∀ d, o.dst = some d → d < cx.N ∧ d < 999) (hQ : Next' cx K (Q .normal)) (ht : t ≤ ops.size) : ∀ (s : Sch) (b : Bool) (listed : Array Bool) (st : St) (M : Mp) (a : Act) (w : World), s.go .any ops t listed = true → Rel cx M st a w → Ks B0 M0 w0 w → (b = false → Nar st.B M B0 M0 w0.heap.size) →
    bwp G ops s b st (fun st' => owp G ops (ops.toList.drop t) st' K) → wpAnyT G.P .any ops (Ks B0 M0 w0) Q t (s.len + (ops.size - t)) listed a w := by
  intro s
  induction s with
  | nil =>
    intro b listed st M a w hB R _ _ h
    simp only [Sch.go] at hB
    simp only [Sch.len, Nat.zero_add]
    exact nilT_sound hN hQ ht hB R h
  | tell i r ih => intro b listed st M a w hB R hks hnar h; simp only [bwp] at h
  | one i r ih =>
    intro b listed st M a w hB R hks hnar h
    simp only [Sch.go, Bool.and_eq_true, decide_eq_true_eq, beq_iff_eq] at hB
    obtain ⟨⟨hit, hfl⟩, hB⟩ := hB
    rw [show (Sch.one i r).len + (ops.size - t) = (r.len + (ops.size - t)) + 1 by simp only [Sch.len]; omega]
    simp only [bwp] at h
    refine ⟨fun h0 => (by rw [h0] at hfl; cases hfl), fun j hj => ?_⟩
    rw [hfl] at hj
    obtain rfl : j = i := by simpa using hj
    exact ⟨fun _ => stp_sound R hN hks hnar h fun b' M' st' a' w' hk R' k n => ih b' _ st' M' a' w' hB R' k n hk, fun hge => absurd hit (Nat.not_lt.2 hge)⟩
  | two i j r s ih1 ih2 =>
    intro b listed st M a w hB R hks hnar h
    simp only [Sch.go, Bool.and_eq_true, decide_eq_true_eq, beq_iff_eq] at hB
    obtain ⟨⟨⟨⟨⟨hit, hjt⟩, hfl⟩, hlen⟩, hB1⟩, hB2⟩ := hB
    rw [show (Sch.two i j r s).len + (ops.size - t) = (r.len + (ops.size - t)) + 1 by simp only [Sch.len]; omega]
    simp only [bwp] at h
    refine ⟨fun h0 => (by rw [h0] at hfl; cases hfl), fun k hk => ?_⟩
    rw [hfl] at hk
    rcases List.mem_cons.1 hk with rfl | hk
    · exact ⟨fun _ => stp_sound R hN hks hnar h.1 fun b' M' st' a' w' hk R' k n => ih1 b' _ st' M' a' w' hB1 R' k n hk, fun hge => absurd hit (Nat.not_lt.2 hge)⟩
    · obtain rfl : k = j := by simpa using hk
      rw [hlen]
      exact ⟨fun _ => stp_sound R hN hks hnar h.2 fun b' M' st' a' w' hk R' k n => ih2 b' _ st' M' a' w' hB2 R' k n hk, fun hge => absurd hjt (Nat.not_lt.2 hge)⟩
  | three i j k r s u _ _ _ => intro b listed st M a w hB R hks hnar h; simp only [bwp] at h
theorem awp_sound {ops : Array Oper} {K : St → Prop} {Q : Exit → Act → World → Prop} {t : Nat} (hN : ∀ o ∈ ops.toList, ∀ d, o.dst = some d → d < cx.N ∧ d < 999) (hQ : Next' cx K (Q .normal)) (ht : t ≤ ops.size) (hs : Region.noSelect ops = true) (hw : waitB .any ops t = true) : ∀ (s : Sch) (listed : Array Bool) (st : St) (M : Mp) (a : Act) (w : World), s.go .any ops t listed = true → Down .any ops listed → Rel cx M st a w →
    awp G ops s st (fun st' => owp G ops (ops.toList.drop t) st' K) → wpAnyT G.P .any ops (Ks st.B M w) Q t (s.len + (ops.size - t)) listed a w := by
  intro s
  induction s with
  | tell i r ih =>
    intro listed st M a w hB hdn R h
    simp only [Sch.go, Bool.and_eq_true, decide_eq_true_eq] at hB
    obtain ⟨⟨hit, hfl⟩, hB⟩ := hB
    have hmem : i ∈ Region.ready .any ops listed := by simpa using hfl.1
    rw [show (Sch.tell i r).len + (ops.size - t) = (r.len + (ops.size - t)) + 1 by simp only [Sch.len]; omega]
    simp only [awp] at h
    split at h
    · exact h.elim
    · rename_i o hio
      have ho := hN o (by have := Array.mem_of_getElem? hio; simpa using this)
      split at h
      · rename_i hg
        obtain ⟨v, u, h1, h2, h3⟩ := qwp_soundS R h
        obtain ⟨st', hb, R', hk⟩ := valK_relB R (fun d h => (ho d h).1) h1 h3
        have := ih _ st' M _ w hB (down_set hdn hmem) R' hk
        rw [hb] at this
        exact wpAnyT_first hio hit (Region.noSelect_spec hs) (waitB_spec hw hit) _ listed a w hdn (Kp.refl _ _) (Region.free_spec hio hfl.2) hmem (.inl ⟨by simp [Region.wanted, hg], h2⟩) this
      · exact h.elim
  | nil => intro listed st M a w hB hdn R h; exact bwp_sound hN hQ ht _ _ _ _ _ _ _ hB R (Kp.refl _ _) (fun _ _ _ _ h => h) h
  | one i r ih => intro listed st M a w hB hdn R h; exact bwp_sound hN hQ ht _ _ _ _ _ _ _ hB R (Kp.refl _ _) (fun _ _ _ _ h => h) h
  | three i j k r s u _ _ _ => intro listed st M a w hB hdn R h; exact bwp_sound hN hQ ht _ _ _ _ _ _ _ hB R (Kp.refl _ _) (fun _ _ _ _ h => h) h
  | two i j r s ih1 ih2 => intro listed st M a w hB hdn R h; exact bwp_sound hN hQ ht _ _ _ _ _ _ _ hB R (Kp.refl _ _) (fun _ _ _ _ h => h) h
theorem opx_sound {ops : Array Oper} (R : Rel cx M st a w) {i : Nat} {K : St → Prop} (hN : ∀ o ∈ ops.toList, ∀ d, o.dst = some d → d < cx.N ∧ d < 999) (h : opx G ops i st K) {Kn : Act → World → Prop} (hn : ∀ M' st' a' w', K st' → Rel cx M' st' a' w' → Kn a' w') : mOp G.P ops (fun _ => True) i Kn a w := by
  unfold opx at h
  split at h
  · exact h.elim
  · rename_i o hio
    have ho := hN o (by have := Array.mem_of_getElem? hio; simpa using this)
    split at h
    · rename_i hg
      split at h
      · refine mOp_of hio hg (runs_mono (fun u w' hc hk => ?_) (opy_sound R ho h))
        obtain ⟨M', st', hk, R'⟩ := hk
        exact ⟨trivial, hn _ _ _ _ hk R'⟩
      · refine mOp_of hio hg (runs_mono (fun u w' hc hk => ?_) (opm_sound R ho h))
        obtain ⟨M', st', hk, R'⟩ := hk
        exact ⟨trivial, hn _ _ _ _ hk R'⟩
    · exact h.elim
theorem fwp_sound {ops : Array Oper} {K : St → Prop} {Q : Exit → Act → World → Prop} {t : Nat} (hN : ∀ o ∈ ops.toList, ∀ d, o.dst = some d → d < cx.N ∧ d < 999) (hQ : Next' cx K (Q .normal)) (ht : t ≤ ops.size) (hs : Region.noSelect ops = true) (hw : waitB .any ops t = true) : ∀ (s : Sch) (listed : Array Bool) (st : St) (M : Mp) (a : Act) (w : World), s.go .any ops t listed = true → Down .any ops listed → Rel cx M st a w →
    fwp G ops s st (fun st' => owp G ops (ops.toList.drop t) st' K) → wpAnyT G.P .any ops (fun _ => True) Q t (s.len + (ops.size - t)) listed a w := by
  intro s
  induction s with
  | nil =>
    intro listed st M a w hB hdn R h
    simp only [Sch.go] at hB
    simp only [Sch.len, Nat.zero_add]
    exact nilT_sound hN hQ ht hB R h
  | tell i r ih =>
    intro listed st M a w hB hdn R h
    simp only [Sch.go, Bool.and_eq_true, decide_eq_true_eq] at hB
    obtain ⟨⟨hit, hfl⟩, hB⟩ := hB
    have hmem : i ∈ Region.ready .any ops listed := by simpa using hfl.1
    rw [show (Sch.tell i r).len + (ops.size - t) = (r.len + (ops.size - t)) + 1 by simp only [Sch.len]; omega]
    simp only [fwp] at h
    split at h
    · exact h.elim
    · rename_i o hio
      have ho := hN o (by have := Array.mem_of_getElem? hio; simpa using this)
      split at h
      · rename_i hg
        rw [chk_iff] at h
        obtain ⟨v, u, h1, h2, h3⟩ := qwp_soundC (C := fun _ => True) R (.inl h.1) h.2
        obtain ⟨st', hb, R', hk⟩ := valK_relB R (fun d h => (ho d h).1) h1 h3
        have := ih _ st' M _ w hB (down_set hdn hmem) R' hk
        exact wpAnyT_first hio hit (Region.noSelect_spec hs) (waitB_spec hw hit) _ listed a w hdn trivial (Region.free_spec hio hfl.2) hmem (.inl ⟨by simp [Region.wanted, hg], h2⟩) this
      · exact h.elim
  | one i r ih =>
    intro listed st M a w hB hdn R h
    simp only [Sch.go, Bool.and_eq_true, decide_eq_true_eq, beq_iff_eq] at hB
    obtain ⟨⟨hit, hfl⟩, hB⟩ := hB
    rw [show (Sch.one i r).len + (ops.size - t) = (r.len + (ops.size - t)) + 1 by simp only [Sch.len]; omega]
    simp only [fwp] at h
    have hmem : i ∈ Region.ready .any ops listed := by rw [hfl]; simp
    refine ⟨fun h0 => (by rw [h0] at hfl; cases hfl), fun j hj => ?_⟩
    rw [hfl] at hj
    obtain rfl : j = i := by simpa using hj
    exact ⟨fun _ => opx_sound R hN h fun M' st' a' w' hk R' => ih _ st' M' a' w' hB (down_set hdn hmem) R' hk, fun hge => absurd hit (Nat.not_lt.2 hge)⟩
  | two i j r s ih1 ih2 =>
    intro listed st M a w hB hdn R h
    simp only [Sch.go, Bool.and_eq_true, decide_eq_true_eq, beq_iff_eq] at hB
    obtain ⟨⟨⟨⟨⟨hit, hjt⟩, hfl⟩, hlen⟩, hB1⟩, hB2⟩ := hB
    rw [show (Sch.two i j r s).len + (ops.size - t) = (r.len + (ops.size - t)) + 1 by simp only [Sch.len]; omega]
    simp only [fwp] at h
    have hm1 : i ∈ Region.ready .any ops listed := by rw [hfl]; simp
    have hm2 : j ∈ Region.ready .any ops listed := by rw [hfl]; simp
    refine ⟨fun h0 => (by rw [h0] at hfl; cases hfl), fun k hk => ?_⟩
    rw [hfl] at hk
    rcases List.mem_cons.1 hk with rfl | hk
    · exact ⟨fun _ => opx_sound R hN h.1 fun M' st' a' w' hk R' => ih1 _ st' M' a' w' hB1 (down_set hdn hm1) R' hk, fun hge => absurd hit (Nat.not_lt.2 hge)⟩
    · obtain rfl : k = j := by simpa using hk
      rw [hlen]
      exact ⟨fun _ => opx_sound R hN h.2 fun M' st' a' w' hk R' => ih2 _ st' M' a' w' hB2 (down_set hdn hm2) R' hk, fun hge => absurd hjt (Nat.not_lt.2 hge)⟩
  | three i j k r s u ih1 ih2 ih3 =>
    intro listed st M a w hB hdn R h
    simp only [Sch.go, Bool.and_eq_true, decide_eq_true_eq, beq_iff_eq] at hB
    obtain ⟨⟨⟨⟨⟨⟨⟨⟨hit, hjt⟩, hkt⟩, hfl⟩, hlen⟩, hlen2⟩, hB1⟩, hB2⟩, hB3⟩ := hB
    rw [show (Sch.three i j k r s u).len + (ops.size - t) = (r.len + (ops.size - t)) + 1 by simp only [Sch.len]; omega]
    simp only [fwp] at h
    have hm1 : i ∈ Region.ready .any ops listed := by rw [hfl]; simp
    have hm2 : j ∈ Region.ready .any ops listed := by rw [hfl]; simp
    have hm3 : k ∈ Region.ready .any ops listed := by rw [hfl]; simp
    refine ⟨fun h0 => (by rw [h0] at hfl; cases hfl), fun l hl => ?_⟩
    rw [hfl] at hl
    rcases List.mem_cons.1 hl with rfl | hl
    · exact ⟨fun _ => opx_sound R hN h.1 fun M' st' a' w' hk R' => ih1 _ st' M' a' w' hB1 (down_set hdn hm1) R' hk, fun hge => absurd hit (Nat.not_lt.2 hge)⟩
    · rcases List.mem_cons.1 hl with rfl | hl
      · rw [hlen]
        exact ⟨fun _ => opx_sound R hN h.2.1 fun M' st' a' w' hk R' => ih2 _ st' M' a' w' hB2 (down_set hdn hm2) R' hk, fun hge => absurd hjt (Nat.not_lt.2 hge)⟩
      · obtain rfl : l = k := by simpa using hl
        rw [hlen2]
        exact ⟨fun _ => opx_sound R hN h.2.2 fun M' st' a' w' hk R' => ih3 _ st' M' a' w' hB3 (down_set hdn hm3) R' hk, fun hge => absurd hkt (Nat.not_lt.2 hge)⟩
/-- What a loop's round knows: these slots and these boxes. -/
def ofL : List (Nat × V) → Nat → V
  | [] => fun _ => .undef
  | (t, v) :: r => upd (ofL r) t v
def stOf (tl : List (Nat × V)) (bl : Bl) : St := { T := ofL tl, B := toB bl }
def keepsT (T : Nat → V) : List (Nat × V) → Prop
  | [] => True
  | (t, v) :: r => T t = v ∧ keepsT T r
def keepsB (B : Bs) : Bl → Prop
  | [] => True
  | (b, x) :: r => B b = some x ∧ keepsB B r
def keeps (st : St) (tl : List (Nat × V)) (bl : Bl) : Prop := keepsT st.T tl ∧ keepsB st.B bl
theorem keepsT_get {T : Nat → V} : ∀ (tl : List (Nat × V)), keepsT T tl → ∀ t, ofL tl t = .undef ∨ ofL tl t = T t := by
  intro tl
  induction tl with
  | nil => intro _ t; exact .inl rfl
  | cons y r ih =>
    obtain ⟨t0, v⟩ := y
    intro h t
    simp only [ofL, upd]
    split
    · rename_i e; subst e; exact .inr h.1.symm
    · exact ih h.2 t
theorem keepsB_get {B : Bs} : ∀ (bl : Bl), keepsB B bl → ∀ b x, toB bl b = some x → B b = some x := by
  intro bl
  induction bl with
  | nil => intro _ b x h; cases h
  | cons y r ih =>
    obtain ⟨b0, z⟩ := y
    intro h b x hx
    simp only [toB, upd] at hx
    split at hx
    · rename_i e; subst e; cases hx; exact h.1
    · exact ih h.2 b x hx
theorem Rel.kept (R : Rel cx M st a w) {tl : List (Nat × V)} {bl : Bl} (h : keeps st tl bl) : Rel cx M (stOf tl bl) a w := by
  have R' := R.fewer (B' := toB bl) (keepsB_get bl h.2)
  refine ⟨R'.defers, R'.size, fun t => ?_, R'.flat, R'.inj, R'.away, R'.keep, R'.root⟩
  rcases keepsT_get tl h.1 t with e | e
  · show VR _ _ _ (ofL tl t) _
    rw [e]; exact .undef _
  · show VR _ _ _ (ofL tl t) _
    rw [e]; exact R.regs t
/-- Boxes under new names: look ρ b is the old name of b. -/
def look : List (Nat × Nat) → Nat → Nat
  | [], b => b
  | (n, o) :: r, b => match decide (b = n) with
    | true => o
    | false => look r b
def renRow (f : Nat → Nat) (t : Bool) (xs : Row) : Row := match t with
  | true => xs.map (renL f)
  | false => xs
def keepsRT (T : Nat → V) (ρ : List (Nat × Nat)) : List (Nat × V) → Prop
  | [] => True
  | (t, v) :: r => T t = ren (look ρ) v ∧ keepsRT T ρ r
def keepsRB (B : Bs) (ρ : List (Nat × Nat)) : Bl → Prop
  | [] => True
  | (b, t, s, xs) :: r => B (look ρ b) = some (t, s, renRow (look ρ) t xs) ∧ keepsRB B ρ r
def notIn (x : Nat) : List Nat → Bool
  | [] => true
  | y :: r => match decide (x = y) with
    | true => false
    | false => notIn x r
def noDup : List Nat → Bool
  | [] => true
  | x :: r => match notIn x r with
    | true => noDup r
    | false => false
def oldNames (ρ : List (Nat × Nat)) : Bl → List Nat
  | [] => []
  | (b, _) :: r => look ρ b :: oldNames ρ r
def newHigh : List (Nat × Nat) → Bool
  | [] => true
  | (n, _) :: r => match decide (500 ≤ n) with
    | true => newHigh r
    | false => false
def keepsR (st : St) (ρ : List (Nat × Nat)) (tl : List (Nat × V)) (bl : Bl) : Prop := (noDup (oldNames ρ bl) = true ∧ newHigh ρ = true) ∧ keepsRT st.T ρ tl ∧ keepsRB st.B ρ bl
theorem look_low {ρ : List (Nat × Nat)} (h : newHigh ρ = true) {b : Nat} (hb : b < 500) : look ρ b = b := by
  induction ρ with
  | nil => rfl
  | cons y r ih =>
    obtain ⟨n, o⟩ := y
    simp only [newHigh] at h
    split at h
    · rename_i hn
      have := of_decide_eq_true hn
      simp only [look]
      rw [decide_eq_false (by omega)]
      exact ih h
    · cases h
theorem notIn_ok {x : Nat} : ∀ {l : List Nat}, notIn x l = true → x ∉ l := by
  intro l
  induction l with
  | nil => intro _; simp
  | cons y r ih =>
    intro h
    simp only [notIn] at h
    split at h
    · cases h
    · rename_i hn
      have := of_decide_eq_false hn
      simp [this, ih h]
theorem oldNames_mem (ρ : List (Nat × Nat)) {bl : Bl} {b : Nat} {x : Bool × Nat × Row} (h : (b, x) ∈ bl) : look ρ b ∈ oldNames ρ bl := by
  induction bl with
  | nil => simp at h
  | cons y r ih =>
    obtain ⟨n, z⟩ := y
    rcases List.mem_cons.1 h with e | h
    · cases e; simp [oldNames]
    · simp [oldNames, ih h]
theorem noDup_ok {ρ : List (Nat × Nat)} : ∀ {bl : Bl}, noDup (oldNames ρ bl) = true → ∀ b x b' x', toB bl b = some x → toB bl b' = some x' → look ρ b = look ρ b' → b = b' := by
  intro bl
  induction bl with
  | nil => intro _ b x b' x' h; cases h
  | cons y r ih =>
    obtain ⟨n, z⟩ := y
    intro h b x b' x' hx hx' e
    simp only [oldNames, noDup] at h
    split at h
    · rename_i hn
      have hni := notIn_ok hn
      simp only [toB, upd] at hx hx'
      split at hx <;> split at hx'
      · rename_i e1 e2; rw [e1, e2]
      · rename_i e1 e2
        subst e1
        exact absurd (e ▸ oldNames_mem ρ (toB_mem hx')) hni
      · rename_i e1 e2
        subst e2
        exact absurd (e ▸ oldNames_mem ρ (toB_mem hx)) hni
      · exact ih h b x b' x' hx hx' e
    · cases h
theorem keepsRT_get {T : Nat → V} {ρ : List (Nat × Nat)} : ∀ (tl : List (Nat × V)), keepsRT T ρ tl → ∀ t, ofL tl t = .undef ∨ T t = ren (look ρ) (ofL tl t) := by
  intro tl
  induction tl with
  | nil => intro _ t; exact .inl rfl
  | cons y r ih =>
    obtain ⟨t0, v⟩ := y
    intro h t
    simp only [ofL, upd]
    split
    · rename_i e; subst e; exact .inr h.1
    · exact ih h.2 t
theorem keepsRB_get {B : Bs} {ρ : List (Nat × Nat)} : ∀ (bl : Bl), keepsRB B ρ bl → ∀ b x, toB bl b = some x → B (look ρ b) = some (x.1, x.2.1, renRow (look ρ) x.1 x.2.2) := by
  intro bl
  induction bl with
  | nil => intro _ b x h; cases h
  | cons y r ih =>
    obtain ⟨b0, t, s, xs⟩ := y
    intro h b x hx
    simp only [toB, upd] at hx
    split at hx
    · rename_i e; subst e; cases hx; exact h.1
    · exact ih h.2 b x hx
theorem ren_own (f : Nat → Nat) (v : V) (s : Nat) (ys : Row) (h : ren f v = .own s ys) : v = .own s ys := by
  cases v <;> rw [ren] at h <;> first | exact h | cases h
theorem VR.unren {f : Nat → Nat} {wd : World} {Ro : Nat → Prop} {v0 : V} {u : Value} (h : VR M wd Ro v0 u) (hM : ∀ b q, M' b q = M (f b) q) : ∀ v, v0 = ren f v → VR M' wd Ro v u := by
  induction h with
  | lit x => intro v e; cases v <;> rw [ren] at e <;> first | cases e | skip
             exact .lit _
  | undef x => intro v e; cases v <;> rw [ren] at e <;> first | cases e | skip
               exact .undef _
  | imm h => intro v e; cases v <;> rw [ren] at e <;> first | cases e | skip
             exact .imm h
  | pro h1 h2 h3 => intro v e; cases v <;> rw [ren] at e <;> first | cases e | skip
                    exact .pro h1 h2 h3
  | sl h1 h2 => intro v e; cases v <;> rw [ren] at e <;> first | cases e | skip
                exact .sl h1 (by rw [hM]; exact h2)
  | ptr h1 => intro v e; cases v <;> rw [ren] at e <;> first | cases e | skip
              exact .ptr (by rw [hM]; exact h1)
  | agg h1 h2 ih =>
    intro v e
    cases v <;> rw [ren] at e <;> first | cases e | skip
    refine .agg (by rw [h1, renL_length]) (fun k v u hv hu => ih k (ren f v) u (by rw [renL_get, hv]; rfl) hu v rfl)
  | tup h1 h2 ih =>
    intro v e
    cases v <;> rw [ren] at e <;> first | cases e | skip
    refine .tup (by rw [h1, renL_length]) (fun k v u hv hu => ih k (ren f v) u (by rw [renL_get, hv]; rfl) hu v rfl)
  | fn h1 h2 ih =>
    intro v e
    cases v <;> rw [ren] at e <;> first | cases e | skip
    refine .fn (by rw [h1, renL_length]) (fun k v u hv hu => ih k (ren f v) u (by rw [renL_get, hv]; rfl) hu v rfl)
theorem renRow_length (f : Nat → Nat) (t : Bool) (xs : Row) : (renRow f t xs).length = xs.length := by cases t <;> simp [renRow]
theorem renRow_cell (f : Nat → Nat) (t : Bool) (xs : Row) (i k : Nat) : cellAt (renRow f t xs) i k = (cellAt xs i k).map (if t = true then ren f else id) := by
  cases t with
  | false => simp [renRow]
  | true =>
    unfold cellAt renRow
    simp only [if_true, List.getElem?_map]
    cases xs[i]? with
    | none => rfl
    | some x => simp [renL_get]
theorem sub_renRow (f : Nat → Nat) (t : Bool) (sz : Nat) (xs : Row) (q : Path) (hq : q ≠ []) : sub sz (renRow f t xs) q = sub sz xs q :=
  sub_map (fun t v => if t = true then ren f v else v) (fun t s ys => by
    cases t
    · rfl
    · show ren f (.own s ys) = _
      rw [ren]) (fun t v s ys h => by
    cases t
    · exact h
    · exact ren_own f v s ys h) t sz xs _ (fun i k => by rw [renRow_cell]; cases t <;> simp <;> rfl) q hq
theorem Rel.keptR (R : Rel cx M st a w) {ρ : List (Nat × Nat)} {tl : List (Nat × V)} {bl : Bl} (h : keepsR st ρ tl bl) : ∃ M', Rel cx M' (stOf tl bl) a w := by
  obtain ⟨⟨hd, hh⟩, ht, hb⟩ := h
  have kb := keepsRB_get bl hb
  have hr : ∀ b q t s xs, rowsAt (toB bl) b q = some (t, s, xs) → rowsAt st.B (look ρ b) q = some (t, s, renRow (look ρ) t xs) := by
    intro b q t s xs hx
    unfold rowsAt at hx ⊢
    cases hB : toB bl b with
    | none => rw [hB] at hx; cases hx
    | some y =>
      obtain ⟨t0, s0, xs0⟩ := y
      rw [hB] at hx
      rw [kb b _ hB]
      simp only at hx ⊢
      by_cases hq : q = []
      · subst hq
        simp only [sub, Option.map_some, List.isEmpty_nil, Bool.and_true, Option.some.injEq, Prod.mk.injEq] at hx ⊢
        obtain ⟨rfl, rfl, rfl⟩ := hx
        exact ⟨rfl, rfl, rfl⟩
      · rw [sub_renRow _ _ _ _ _ hq, hx]
        obtain ⟨z, h1, h2⟩ := Option.map_eq_some_iff.1 hx
        have he : q.isEmpty = false := by cases q <;> simp_all
        rw [he, Bool.and_false] at h2
        simp only [Prod.mk.injEq] at h2
        obtain ⟨rfl, _, _⟩ := h2
        rfl
  refine ⟨fun b q => M (look ρ b) q, R.defers, R.size, fun t => ?_, fun b q t s xs hx => ?_, fun b q b' q' h1 h2 A n A' n' hA hA' hbl => ?_, fun b q t s xs hx A n hA => ?_, R.keep, fun b hb => ?_⟩
  · show VR _ _ _ (ofL tl t) _
    rcases keepsRT_get tl ht t with e | e
    · rw [e]; exact .undef _
    · exact (R.regs t).unren (fun b q => rfl) _ e
  · have F := R.flat _ _ _ _ _ (hr b q t s xs hx)
    refine ⟨fun i x hi => ?_, fun h => ?_, fun A n hA => ?_, fun A n hA i k v hv => ?_⟩
    · cases t with
      | false => exact F.lens i x hi
      | true =>
        have := F.lens i (renL (look ρ) x) (by simp [renRow, hi])
        rw [renL_length] at this; exact this
    · have := F.none h
      have := congrArg List.length this
      rw [renRow_length] at this
      exact List.eq_nil_of_length_eq_zero this
    · have := F.there A n hA
      rw [renRow_length] at this; exact this
    · obtain ⟨u, g1, g2, g3⟩ := F.cell A n hA i k ((if t = true then ren (look ρ) else id) v) (by rw [renRow_cell, hv]; rfl)
      refine ⟨u, g1, g2, ?_⟩
      have own : ∀ s2 zs, CR M cx.w0 cx.Ro t (look ρ b) q i k (.own s2 zs) u → CR (fun b q => M (look ρ b) q) cx.w0 cx.Ro t b q i k (.own s2 zs) u := by
        intro s2 zs h
        simp only [CR] at h ⊢
        cases h with
        | sl c1 c2 => exact .sl c1 c2
      cases t with
      | false =>
        simp only [Bool.false_eq_true, if_false, id_eq] at g3
        cases v
        case own s2 zs => exact own _ _ g3
        case lit => exact g3
        case undef => trivial
        all_goals exact absurd g3.1 (by simp)
      | true =>
        simp only [if_true] at g3
        cases v
        case own s2 zs => rw [ren] at g3; exact own _ _ g3
        case lit => rw [ren] at g3; exact g3
        case undef => trivial
        all_goals
          refine ⟨rfl, ?_⟩
          rw [ren] at g3
          exact (g3.2).unren (M' := fun b q => M (look ρ b) q) (f := look ρ) (fun b q => rfl) _ (by rw [ren])
  · obtain ⟨⟨t, s, xs⟩, h1⟩ := Option.isSome_iff_exists.1 h1
    obtain ⟨⟨t', s', xs'⟩, h2⟩ := Option.isSome_iff_exists.1 h2
    obtain ⟨e1, e2⟩ := R.inj _ _ _ _ (by rw [hr _ _ _ _ _ h1]; rfl) (by rw [hr _ _ _ _ _ h2]; rfl) A n A' n' hA hA' hbl
    refine ⟨?_, e2⟩
    have ex : ∀ b q t s xs, rowsAt (toB bl) b q = some (t, s, xs) → ∃ x, toB bl b = some x := by
      intro b q t s xs hx
      unfold rowsAt at hx
      cases hB : toB bl b with
      | none => rw [hB] at hx; cases hx
      | some x => exact ⟨x, rfl⟩
    obtain ⟨x, hx⟩ := ex _ _ _ _ _ h1
    obtain ⟨x', hx'⟩ := ex _ _ _ _ _ h2
    exact noDup_ok hd _ _ _ _ hx hx' e1
  · have := R.away _ _ _ _ _ (hr b q t s xs hx) A n hA
    rw [renRow_length] at this; exact this
  · show M (look ρ b) [] = cx.M0 b []
    rw [look_low hh hb]; exact R.root b hb
/-- How a state is written anew between two statements: not; by hand; these slots and these boxes, reckoned out. -/
inductive Cut where
  | no
  | man
  | auto (ks bs : List Nat)
def forceL : List V → (List V → Prop) → Prop
  | [], K => K []
  | v :: r, K => force v fun v' => forceL r fun r' => K (v' :: r')
def forceD (v : V) (K : V → Prop) : Prop := match v with
  | .agg cs => forceL cs fun cs' => K (.agg cs')
  | v => K v
def forceDL : List V → (List V → Prop) → Prop
  | [], K => K []
  | v :: r, K => force v fun v' => forceD v' fun v'' => forceDL r fun r' => K (v'' :: r')
def forceV (v : V) (K : V → Prop) : Prop := match v with
  | .agg cs => forceL cs fun cs' => K (.agg cs')
  | .tup cs => forceDL cs fun cs' => K (.tup cs')
  | .fn f cs => forceL cs fun cs' => K (.fn f cs')
  | .lit x => K (.lit x)
  | .imm s xs => K (.imm s xs)
  | .own s xs => K (.own s xs)
  | .pro cs => forceL cs fun cs' => K (.pro cs')
  | .sl b q s o l => K (.sl b q s o l)
  | .ptr b q s i k => K (.ptr b q s i k)
  | .undef => K .undef
theorem forceL_eq : ∀ (l : List V) (K : List V → Prop), forceL l K = K l := by
  intro l
  induction l with
  | nil => intro K; rfl
  | cons v r ih => intro K; rw [forceL, force_eq, ih]
theorem forceD_eq (v : V) (K : V → Prop) : forceD v K = K v := by
  unfold forceD
  split
  · rw [forceL_eq]
  · rfl
theorem forceDL_eq : ∀ (l : List V) (K : List V → Prop), forceDL l K = K l := by
  intro l
  induction l with
  | nil => intro K; rfl
  | cons v r ih => intro K; rw [forceDL, force_eq, forceD_eq, ih]
theorem forceV_eq (v : V) (K : V → Prop) : forceV v K = K v := by
  unfold forceV
  split <;> first | rfl | rw [forceL_eq] | rw [forceDL_eq]
def forceR : Row → (Row → Prop) → Prop
  | [], K => K []
  | x :: r, K => forceL x fun x' => forceR r fun r' => K (x' :: r')
theorem forceR_eq : ∀ (l : Row) (K : Row → Prop), forceR l K = K l := by
  intro l
  induction l with
  | nil => intro K; rfl
  | cons v r ih => intro K; rw [forceR, forceL_eq, ih]
def normT (T : Nat → V) : List Nat → (List (Nat × V) → Prop) → Prop
  | [], K => K []
  | t :: r, K => match T t with
    | .undef => normT T r K
    | .lit x => normT T r fun l => K ((t, .lit x) :: l)
    | .imm s xs => normT T r fun l => K ((t, .imm s xs) :: l)
    | .own s xs => normT T r fun l => K ((t, .own s xs) :: l)
    | .pro cs => forceL cs fun cs' => normT T r fun l => K ((t, .pro cs') :: l)
    | .sl b q s o n => normT T r fun l => K ((t, .sl b q s o n) :: l)
    | .ptr b q s i k => normT T r fun l => K ((t, .ptr b q s i k) :: l)
    | .agg cs => forceL cs fun cs' => normT T r fun l => K ((t, .agg cs') :: l)
    | .tup cs => forceDL cs fun cs' => normT T r fun l => K ((t, .tup cs') :: l)
    | .fn f cs => forceL cs fun cs' => normT T r fun l => K ((t, .fn f cs') :: l)
def normB (B : Bs) : List Nat → (Bl → Prop) → Prop
  | [], K => K []
  | b :: r, K => match B b with
    | none => normB B r K
    | some (true, s, xs) => forceR xs fun xs' => normB B r fun l => K ((b, true, s, xs') :: l)
    | some (false, s, xs) => normB B r fun l => K ((b, false, s, xs) :: l)
theorem normT_ok {T : Nat → V} : ∀ (ks : List Nat) (K : List (Nat × V) → Prop), normT T ks K → ∃ tl, keepsT T tl ∧ K tl := by
  intro ks
  induction ks with
  | nil => intro K h; exact ⟨[], trivial, h⟩
  | cons t r ih =>
    intro K h
    unfold normT at h
    split at h <;> (try simp only [forceL_eq, forceDL_eq] at h) <;> obtain ⟨tl, h1, h2⟩ := ih _ h
    · exact ⟨tl, h1, h2⟩
    all_goals
      rename_i e
      exact ⟨(t, _) :: tl, ⟨e, h1⟩, h2⟩
theorem normB_ok {B : Bs} : ∀ (ks : List Nat) (K : Bl → Prop), normB B ks K → ∃ bl, keepsB B bl ∧ K bl := by
  intro ks
  induction ks with
  | nil => intro K h; exact ⟨[], trivial, h⟩
  | cons t r ih =>
    intro K h
    unfold normB at h
    split at h <;> (try simp only [forceR_eq] at h) <;> obtain ⟨tl, h1, h2⟩ := ih _ h
    · exact ⟨tl, h1, h2⟩
    all_goals
      rename_i e
      exact ⟨(t, _) :: tl, ⟨e, h1⟩, h2⟩
/-- A function's text, from a state on. -/
def cwpX (cut : Cut) (G : Pg) : Code → St → (Exit → St → Prop) → Prop
  | .skip, st, Q => Q .normal st
  | .label _, st, Q => Q .normal st
  | .exit id, st, Q => Q (.exit id) st
  | .ret, st, Q => Q .ret st
  | .seq x y, st, Q => cwpX cut G x st fun e st' => match e with
    | .normal => (match cut with
      | .no => cwpX cut G y st' Q
      | .man => cwpX cut G y st' Q ∨ ∃ ρ tl bl, keepsR st' ρ tl bl ∧ cwpX cut G y (stOf tl bl) Q
      | .auto ks bs => normT st'.T ks fun tl => normB st'.B bs fun bl => cwpX cut G y (stOf tl bl) Q)
    | e => Q e st'
  | .cond c x y, st, Q => match ev st.T c with
    | .lit (.bool t) => iteB t (cwpX cut G x st Q) (cwpX cut G y st Q)
    | _ => False
  | .block id c, st, Q => cwpX cut G c st fun e st' => match e with
    | .exit i => if i = id then Q .normal st' else Q (.exit i) st'
    | e => Q e st'
  | .loop c, st, Q => ∃ (X : Type) (I : X → Prop) (tl : X → List (Nat × V)) (bl : X → Bl) (μ : X → Nat), (∃ ρ x, I x ∧ keepsR st ρ (tl x) (bl x)) ∧ ∀ x, I x → cwpX cut G c (stOf (tl x) (bl x)) fun e st'' => match e with
    | .normal => ∃ ρ y, I y ∧ keepsR st'' ρ (tl y) (bl y) ∧ μ y < μ x
    | e => Q e st''
  | .region _ ops false, st, Q => owp G ops ops.toList st (Q .normal)
  | .region _ ops true, st, Q => (Region.lexB .any ops = true ∧ dwp G ops ops.toList st (Q .normal)) ∨ (∃ t s, schedB .any ops t s = true ∧ xwp G ops s st fun st' => owp G ops (ops.toList.drop t) st' (Q .normal)) ∨ (∃ t s, schedT .any ops t s = true ∧ awp G ops s st fun st' => owp G ops (ops.toList.drop t) st' (Q .normal)) ∨ ∃ t s, schedT .any ops t s = true ∧ fwp G ops s st fun st' => owp G ops (ops.toList.drop t) st' (Q .normal)
  | _, _, _ => False
/-- The same, with no cuts. -/
abbrev cwp (G : Pg) (c : Code) (st : St) (Q : Exit → St → Prop) : Prop := cwpX .no G c st Q
/-- All slots that are written are there. -/
def dOk (N : Nat) : Code → Bool
  | .seq x y => dOk N x && dOk N y
  | .cond _ x y => dOk N x && dOk N y
  | .block _ c => dOk N c
  | .loop c => dOk N c
  | .region _ ops _ => ops.toList.all fun o => match o.dst with | some d => decide (d < N) && decide (d < 999) | none => true
  | .skip | .label _ | .exit _ | .ret => true
  | _ => false
theorem dOk_region {N id : Nat} {ops : Array Oper} {draw : Bool} (h : dOk N (.region id ops draw) = true) : ∀ o ∈ ops.toList, ∀ d, o.dst = some d → d < N ∧ d < 999 := by
  intro o ho d hd
  have := List.all_eq_true.1 h o ho
  rw [hd] at this
  simpa using this
def Lift (cx : Cx) (Q : Exit → St → Prop) : Exit → Act → World → Prop := fun e a w => ∃ M st, Q e st ∧ Rel cx M st a w
theorem cwp_sound (cut : Cut) : ∀ (c : Code), dOk cx.N c = true → ∀ (st : St) (Q : Exit → St → Prop), cwpX cut G c st Q → ∀ M a w, Rel cx M st a w → c.wp G.P (Lift cx Q) a w := by
  intro c
  induction c with
  | skip => intro _ st Q h M a w R; exact wp_skip ⟨M, st, h, R⟩
  | label l => intro _ st Q h M a w R; exact wp_label ⟨M, st, h, R⟩
  | exit id => intro _ st Q h M a w R; exact wp_exit ⟨M, st, h, R⟩
  | ret => intro _ st Q h M a w R; exact wp_ret ⟨M, st, h, R⟩
  | seq x y ihx ihy =>
    intro hd st Q h M a w R
    refine wp_seq (wp_mono (ihx (by simp [dOk] at hd; exact hd.1) st _ h M a w R) fun e a w hq => ?_)
    obtain ⟨M', st', hq, R'⟩ := hq
    have hdy : dOk cx.N y = true := by simp [dOk] at hd; exact hd.2
    cases e with
    | normal =>
      cases cut with
      | no => exact ihy hdy st' Q hq M' a w R'
      | auto ks bs =>
        obtain ⟨tl, k1, hq⟩ := normT_ok _ _ hq
        obtain ⟨bl, k2, hq⟩ := normB_ok _ _ hq
        exact ihy hdy _ Q hq M' a w (R'.kept ⟨k1, k2⟩)
      | man =>
        rcases hq with hq | ⟨ρ, tl, bl, hk, hq⟩
        · exact ihy hdy st' Q hq M' a w R'
        · obtain ⟨M2, R2⟩ := R'.keptR hk
          exact ihy hdy _ Q hq M2 a w R2
    | _ => exact ⟨M', st', hq, R'⟩
  | cond c x y ihx ihy =>
    intro hd st Q h M a w R
    unfold cwpX at h
    have hc := R.ev_ c
    split at h
    · rename_i t ht
      have h := iteB_get h
      rw [ht] at hc
      have e := hc.lit_
      cases t with
      | true => exact wp_cond e (by simpa using ihx (by simp [dOk] at hd; exact hd.1) st Q (h.1 rfl) M a w R)
      | false => exact wp_cond e (by simpa using ihy (by simp [dOk] at hd; exact hd.2) st Q (h.2 rfl) M a w R)
    · exact h.elim
  | block id c ih =>
    intro hd st Q h M a w R
    refine wp_block (wp_mono (ih (by simpa [dOk] using hd) st _ h M a w R) fun e a w hq => ?_)
    obtain ⟨M', st', hq, R'⟩ := hq
    cases e with
    | exit i =>
      simp only at hq
      by_cases hi : i = id
      · rw [if_pos hi] at hq; simp only [Exit.inBlock, hi, if_true]; exact ⟨M', st', hq, R'⟩
      · rw [if_neg hi] at hq; simp only [Exit.inBlock, hi, if_false]; exact ⟨M', st', hq, R'⟩
    | _ => exact ⟨M', st', hq, R'⟩
  | loop c ih =>
    intro hd st Q h M a w R
    obtain ⟨X, I, tl, bl, μ, ⟨ρ0, x0, hI0, h0⟩, hround⟩ := h
    intro b k cs
    have key : ∀ n (x : X) (M : Mp) (a : Act) (w : World), I x → μ x = n → Rel cx M (stOf (tl x) (bl x)) a w → ∃ e a' w', Lift cx Q e a' w' ∧ Arrives G.P (lone (b.at a (.code c :: .inLoop c :: k)) cs w) b k cs e a' w' := by
      intro n
      induction n using Nat.strongRecOn with
      | _ n ih2 =>
        intro x M a w hI hn R
        obtain ⟨e, a₁, w₁, hq, harr⟩ := ih (by simpa [dOk] using hd) _ _ (hround x hI) M a w R b (.inLoop c :: k) cs
        obtain ⟨M1, st1, hq, R1⟩ := hq
        cases e with
        | normal =>
          obtain ⟨ρ1, y, hIy, hI₁, hlt⟩ := hq
          obtain ⟨M2, R2⟩ := R1.keptR hI₁
          obtain ⟨e₂, a₂, w₂, hq₂, harr₂⟩ := ih2 (μ y) (hn ▸ hlt) y M2 a₁ w₁ hIy rfl R2
          exact ⟨e₂, a₂, w₂, hq₂, .of_steps (Steps.trans harr (.one step_inLoop)) harr₂⟩
        | exit id => exact ⟨_, a₁, w₁, ⟨M1, st1, hq, R1⟩, .pass (x := .inLoop c) rfl (fun _ _ => .inl (by simp)) harr⟩
        | goto l => exact ⟨_, a₁, w₁, ⟨M1, st1, hq, R1⟩, .pass (x := .inLoop c) rfl (fun _ _ => .inl (by simp)) harr⟩
        | ret => exact ⟨_, a₁, w₁, ⟨M1, st1, hq, R1⟩, .pass (x := .inLoop c) rfl (fun _ _ => .inl (by simp)) harr⟩
        | panic ch => exact ⟨_, a₁, w₁, ⟨M1, st1, hq, R1⟩, .pass (x := .inLoop c) rfl (fun _ _ => .inl (by simp)) harr⟩
        | outgrown => exact ⟨_, a₁, w₁, ⟨M1, st1, hq, R1⟩, .pass (x := .inLoop c) rfl (fun _ _ => .inl (by simp)) harr⟩
    obtain ⟨M0, R0⟩ := R.keptR h0
    obtain ⟨e, a', w', hq, harr⟩ := key _ x0 M0 a w hI0 rfl R0
    exact ⟨e, a', w', hq, .of_steps (.one step_loop) harr⟩
  | region id ops draw =>
    intro hd st Q h M a w R
    cases draw with
    | true =>
      unfold cwpX at h
      have hC : Sm w.drew { w with drawn := w.drawn + 1 } := Kp.refl _ _
      rcases h with ⟨h1, h⟩ | ⟨t, s, h1, h⟩ | ⟨t, s, h1, h⟩ | ⟨t, s, h1, h⟩
      · refine wp_region_quiet (C := Sm w.drew) G.mixed h1 hC ?_
        refine wpQuiet_mono ?_ (dwp_sound (dOk_region hd) _ st M a _ R.drew (dOk_region hd) h)
        rintro a' ⟨st', e1, e2⟩ w' hw'
        exact ⟨M, st', e1, e2.later hw'⟩
      · simp only [schedB, Bool.and_eq_true, decide_eq_true_eq] at h1
        obtain ⟨⟨⟨⟨g1, g2⟩, g3⟩, g4⟩, g5⟩ := h1
        refine wp_region_any G.mixed (wpAny_of_T (C := Sm w.drew) (t := t) _ _ _ _ ?_)
        have := xwp_sound (dOk_region hd) (Q := fun e a w => ∃ M st, Q e st ∧ Rel cx M st a w) (fun M st a w hk R => ⟨M, st, hk, R⟩) g3 g1 g2 s _ st M a _ g5 (down_start _ _ _) R.drew h
        rw [g4] at this
        exact this
      · simp only [schedT, Bool.and_eq_true, decide_eq_true_eq] at h1
        obtain ⟨⟨⟨⟨g1, g2⟩, g3⟩, g4⟩, g5⟩ := h1
        refine wp_region_any G.mixed (wpAny_of_T (C := Ks st.B M w.drew) (t := t) _ _ _ _ ?_)
        have := awp_sound (dOk_region hd) (Q := fun e a w => ∃ M st, Q e st ∧ Rel cx M st a w) (fun M st a w hk R => ⟨M, st, hk, R⟩) g3 g1 g2 s _ st M a _ g5 (down_start _ _ _) R.drew h
        rw [g4] at this
        exact this
      · simp only [schedT, Bool.and_eq_true, decide_eq_true_eq] at h1
        obtain ⟨⟨⟨⟨g1, g2⟩, g3⟩, g4⟩, g5⟩ := h1
        refine wp_region_any G.mixed (wpAny_of_T (C := fun _ => True) (t := t) _ _ _ _ ?_)
        have := fwp_sound (dOk_region hd) (Q := fun e a w => ∃ M st, Q e st ∧ Rel cx M st a w) (fun M st a w hk R => ⟨M, st, hk, R⟩) g3 g1 g2 s _ st M a _ g5 (down_start _ _ _) R.drew h
        rw [g4] at this
        exact this
    | false => exact wp_region_list (owp_sound (dOk_region hd) (fun M st a w hk R => ⟨M, st, hk, R⟩) _ st M a w R (dOk_region hd) h)
  | _ => intros; contradiction
/-- What a function gives back. -/
def resV1 (G : Pg) (st : St) : ResultVar → Option V
  | .tmp t => some (st.T t)
  | .cell ad t => match st.T ad, G.tt t with
    | .ptr b q sz i k, some y => match rowsAt st.B b q with
      | some (_, s, xs) => match decide (s = sz), xs[i]? with
        | true, some x => match decide (k + y.size ≤ sz) with
          | true => some (if y.agg then .agg (lvs b q i k ((x.drop k).take y.size)) else lv b q i k (x.getD k .undef))
          | false => none
        | _, _ => none
      | none => none
    | _, _ => none
def resV0 (G : Pg) (st : St) : List ResultVar → Option V
  | [r] => resV1 G st r
  | l => (l.mapM (resV1 G st)).map V.tup
mutual
/-- What hands back no row of a variable's own cells reads as empty. -/
def fixV (B : Bs) : V → V
  | .sl b (p :: q) sz off len => match B b with
    | some (true, _, _) => match len with
      | 0 => .imm sz []
      | n + 1 => .sl b (p :: q) sz off (n + 1)
    | _ => .sl b (p :: q) sz off len
  | .agg cs => .agg (fixL B cs)
  | .tup vs => .tup (fixL B vs)
  | v => v
def fixL (B : Bs) : List V → List V
  | [] => []
  | v :: r => fixV B v :: fixL B r
end
theorem fixL_length (B : Bs) : ∀ l : List V, (fixL B l).length = l.length
  | [] => by rw [fixL]
  | v :: r => by rw [fixL]; simp [fixL_length B r]
theorem fixL_get (B : Bs) : ∀ (l : List V) (k : Nat), (fixL B l)[k]? = (l[k]?).map (fixV B)
  | [], k => by rw [fixL]; simp
  | v :: r, 0 => by rw [fixL]; simp
  | v :: r, k + 1 => by rw [fixL]; simpa using fixL_get B r k
theorem VR.fix {wd : World} {Ro : Nat → Prop} {v : V} {u : Value} (h : VR M wd Ro v u) (B : Bs) : VR M wd Ro (fixV B v) u := by
  induction h with
  | lit x => rw [fixV] <;> first | exact .lit _ | (intros; contradiction)
  | undef x => rw [fixV] <;> first | exact .undef _ | (intros; contradiction)
  | imm h => rw [fixV] <;> first | exact .imm h | (intros; contradiction)
  | pro h1 h2 h3 => rw [fixV] <;> first | exact .pro h1 h2 h3 | (intros; contradiction)
  | ptr h1 => rw [fixV] <;> first | exact .ptr h1 | (intros; contradiction)
  | fn h1 h2 ih => rw [fixV] <;> first | exact .fn h1 h2 | (intros; contradiction)
  | @sl b q sz off len cap ad h1 h2 =>
    cases q with
    | nil => simp only [fixV]; exact .sl h1 h2
    | cons p q =>
      simp only [fixV]
      split
      · cases len with
        | zero => exact .imm (.nil (.inr rfl))
        | succ n => exact .sl h1 h2
      · exact .sl h1 h2
  | agg h1 h2 ih =>
    rw [fixV]
    refine .agg (by rw [fixL_length]; exact h1) (fun k v u hv hu => ?_)
    rw [fixL_get] at hv
    obtain ⟨x, hx, rfl⟩ := Option.map_eq_some_iff.1 hv
    exact ih k x u hx hu
  | tup h1 h2 ih =>
    rw [fixV]
    refine .tup (by rw [fixL_length]; exact h1) (fun k v u hv hu => ?_)
    rw [fixL_get] at hv
    obtain ⟨x, hx, rfl⟩ := Option.map_eq_some_iff.1 hv
    exact ih k x u hx hu
def resV (G : Pg) (st : St) (rs : List ResultVar) : Option V := match resV0 G st rs with
  | some v => some (fixV st.B v)
  | none => none
/-- Results' boxes under their names, in line; the boxes that were handed in keep theirs. -/
def outId (ds : List Nat) (b : Nat) : Option Nat := if b < 500 then some b else ds[b - 500]?
def outName (ds : List Nat) (b : Nat) : Nat := if b < 500 then b else 500 + ds.idxOf b
def renBx (ds : List Nat) (y : Bool × Nat × Row) : Bool × Nat × Row := (y.1, y.2.1, if y.1 = true then y.2.2.map (renL (outName ds)) else y.2.2)
def knows (ds : List Nat) : Nat → Bool := fun b => decide (b < 500) || ds.contains b
def outOk (ds : List Nat) (B : Bs) (x : Nat × Bool × Nat × Row) : Prop := match (outId ds x.1).bind B with
  | some y => x.2 = renBx ds y ∧ (y.1 = true → (y.2.2.all fun c => namesL (knows ds) c) = true)
  | none => False
def outAll (ds : List Nat) (B : Bs) : Bl → Prop
  | [] => True
  | x :: r => outOk ds B x ∧ outAll ds B r
/-- A mark: here a walk stops. -/
inductive Done (p : Prop) : Prop where
  | mk (h : p)
/-- The end of a function: its result and its boxes. -/
def EndW (G : Pg) (rs : List ResultVar) (r : V) (bs' : Bl) (e : Exit) (st : St) : Prop := Done (
  (match e with | .normal => True | .ret => True | _ => False) ∧ ∃ ds, (match resV G st rs with | some v => names (knows ds) v = true ∧ ren (outName ds) v = r | none => False) ∧ ds.Nodup ∧ (ds.all fun d => decide (500 ≤ d)) = true ∧ outAll ds st.B bs')
theorem outId_name {ds : List Nat} (h5 : (ds.all fun d => decide (500 ≤ d)) = true) {b : Nat} (h : knows ds b = true) : outId ds (outName ds b) = some b := by
  unfold outId outName
  by_cases hb : b < 500
  · rw [if_pos hb, if_pos hb]
  · rw [if_neg hb, if_neg (by omega)]
    have hm : b ∈ ds := by simpa [knows, hb] using h
    rw [Nat.add_sub_cancel_left]
    have hlt := List.idxOf_lt_length_of_mem hm
    rw [List.getElem?_eq_getElem hlt, List.getElem_idxOf hlt]
theorem outId_inj {ds : List Nat} (hn : ds.Nodup) (h5 : (ds.all fun d => decide (500 ≤ d)) = true) {b b' o : Nat} (h : outId ds b = some o) (h' : outId ds b' = some o) : b = b' := by
  have g5 : ∀ j o, ds[j]? = some o → 500 ≤ o := fun j o hj => of_decide_eq_true (List.all_eq_true.1 h5 o (List.mem_of_getElem? hj))
  unfold outId at h h'
  split at h <;> split at h'
  · cases h; cases h'; rfl
  · rename_i h1 h2; cases h; have := g5 _ _ h'; omega
  · rename_i h1 h2; cases h'; have := g5 _ _ h; omega
  · rename_i h1 h2
    obtain ⟨l1, e1⟩ := List.getElem?_eq_some_iff.1 h
    obtain ⟨l2, e2⟩ := List.getElem?_eq_some_iff.1 h'
    have key := List.pairwise_iff_getElem.1 hn
    rcases Nat.lt_trichotomy (b - 500) (b' - 500) with hlt | heq | hgt
    · exact absurd (e1.trans e2.symm) (key _ _ l1 l2 hlt)
    · omega
    · exact absurd (e2.trans e1.symm) (key _ _ l2 l1 hgt)
theorem outAll_mem {ds : List Nat} {B : Bs} {bs : Bl} (h : outAll ds B bs) : ∀ x ∈ bs, outOk ds B x := by
  induction bs with
  | nil => intro x hx; cases hx
  | cons y r ih =>
    intro x hx
    rcases List.mem_cons.1 hx with rfl | hx
    · exact h.1
    · exact ih h.2 x hx
theorem Rel.out (R : Rel cx M st a w) {ds : List Nat} (hn : ds.Nodup) (h5 : (ds.all fun d => decide (500 ≤ d)) = true) {bs : Bl} (h : outAll ds st.B bs) : RelB cx (fun b q => match outId ds b with | some o => M o q | none => none) (toB bs) w := by
  generalize hM' : (fun b q => match outId ds b with | some o => M o q | none => none : Mp) = M'
  have m1 : ∀ b o q, outId ds b = some o → M' b q = M o q := by intro b o q h; rw [← hM']; simp [h]
  have mk : ∀ b q, knows ds b = true → M' (outName ds b) q = M b q := fun b q hb => m1 _ _ _ (outId_name h5 hb)
  have live : ∀ b q t s ys, rowsAt (toB bs) b q = some (t, s, ys) → ∃ o zs, outId ds b = some o ∧ rowsAt st.B o q = some (t, s, zs) ∧ ys = (if t = true then zs.map (renL (outName ds)) else zs) ∧ (t = true → (zs.all fun c => namesL (knows ds) c) = true) := by
    intro b q t s ys h1
    unfold rowsAt at h1
    cases hB : toB bs b with
    | none => rw [hB] at h1; cases h1
    | some x =>
      have ho := outAll_mem h _ (toB_mem hB)
      unfold outOk at ho
      simp only at ho
      cases hid : outId ds b with
      | none => rw [hid] at ho; exact ho.elim
      | some o =>
        rw [hid] at ho
        simp only [Option.bind_some] at ho
        cases hy : st.B o with
        | none => rw [hy] at ho; exact ho.elim
        | some y =>
          rw [hy] at ho
          obtain ⟨rfl, hnm⟩ := ho
          rw [hB] at h1
          obtain ⟨t0, s0, ys0⟩ := y
          refine ⟨o, ?_⟩
          simp only [renBx] at h1 hnm
          obtain ⟨⟨s1, y1⟩, h3, h4⟩ := Option.map_eq_some_iff.1 h1
          simp only [Prod.mk.injEq] at h4
          obtain ⟨rfl, rfl, rfl⟩ := h4
          cases q with
          | nil =>
            simp only [sub, Option.some.injEq, Prod.mk.injEq] at h3
            obtain ⟨rfl, rfl⟩ := h3
            exact ⟨ys0, rfl, by rw [rowsAt_box hy]; simp [sub], by simp, fun ht => hnm (by simpa using ht)⟩
          | cons e r =>
            have hsub : sub s0 ys0 (e :: r) = some (s1, y1) := by
              cases t0 with
              | false => simpa using h3
              | true =>
                simp only [if_true] at h3
                obtain ⟨i, k⟩ := e
                simp only [sub] at h3 ⊢
                have hc : cellAt (ys0.map (renL (outName ds))) i k = (cellAt ys0 i k).map (ren (outName ds)) := by
                  unfold cellAt
                  rw [List.getElem?_map]
                  cases ys0[i]? with
                  | none => rfl
                  | some x => simp [renL_get]
                rw [hc] at h3
                cases hv : cellAt ys0 i k with
                | none => rw [hv] at h3; cases h3
                | some v =>
                  rw [hv] at h3
                  simp only [Option.map_some] at h3
                  cases v <;> rw [ren] at h3 <;> first | exact h3 | cases h3
            exact ⟨y1, rfl, by rw [rowsAt_box hy, hsub]; simp, by simp, by simp⟩
  refine ⟨rfl, rfl, fun t => .undef _, ?_, ?_, ?_, R.keep, fun b hb => ?_⟩
  · intro b q t s ys h1
    obtain ⟨o, zs, h2, h3, h4, h6⟩ := live b q t s ys h1
    have F := R.flat o q t s zs h3
    have lens : ∀ i : Nat, (ys[i]?).map (fun x => x.length) = (zs[i]?).map (fun x => x.length) := by
      intro i
      rw [h4]
      split
      · rw [List.getElem?_map]; cases zs[i]? <;> simp [renL_length]
      · rfl
    have hlen : ys.length = zs.length := by rw [h4]; split <;> simp
    refine ⟨fun i x hx => ?_, fun hnone => ?_, fun A n hA => ?_, fun A n hA i k v hv => ?_⟩
    · have := lens i
      rw [hx] at this
      obtain ⟨y, hy1, hy2⟩ := Option.map_eq_some_iff.1 this.symm
      exact (show x.length = y.length from hy2.symm) ▸ F.lens i y hy1
    · rw [m1 _ _ _ h2] at hnone
      have := F.none hnone
      subst this
      exact List.eq_nil_of_length_eq_zero (by simpa using hlen)
    · rw [m1 _ _ _ h2] at hA
      rw [hlen]; exact F.there A n hA
    · rw [m1 _ _ _ h2] at hA
      have hc : ∃ v0, cellAt zs i k = some v0 ∧ v = (if t = true then ren (outName ds) v0 else v0) ∧ (t = true → names (knows ds) v0 = true) := by
        rw [h4] at hv
        cases t with
        | false => exact ⟨v, by simpa using hv, by simp, by simp⟩
        | true =>
          simp only [if_true] at hv
          unfold cellAt at hv ⊢
          rw [List.getElem?_map] at hv
          cases hz : zs[i]? with
          | none => rw [hz] at hv; cases hv
          | some x =>
            rw [hz] at hv
            simp only [Option.map_some, Option.bind_some, renL_get] at hv
            obtain ⟨v0, e1, e2⟩ := Option.map_eq_some_iff.1 hv
            exact ⟨v0, e1, by simp [e2], fun _ => namesL_get (List.all_eq_true.1 (h6 rfl) x (List.mem_of_getElem? hz)) k v0 e1⟩
      obtain ⟨v0, c1, rfl, c3⟩ := hc
      obtain ⟨u, g1, g2, g3⟩ := F.cell A n hA i k v0 c1
      refine ⟨u, g1, g2, ?_⟩
      have own : ∀ s2 ws, CR M cx.w0 cx.Ro t o q i k (.own s2 ws) u → CR M' cx.w0 cx.Ro t b q i k (.own s2 ws) u := by
        intro s2 ws g
        simp only [CR] at g ⊢
        cases g with
        | sl e1 e2 => exact .sl e1 (by rw [m1 _ _ _ h2]; exact e2)
      cases t with
      | false =>
        simp only [Bool.false_eq_true, if_false]
        cases v0
        case own s2 ws => exact own s2 ws g3
        case lit => exact g3
        case undef => trivial
        all_goals exact absurd g3.1 (by simp)
      | true =>
        simp only [if_true]
        have hnm := c3 rfl
        cases v0
        case own s2 ws => rw [ren]; exact own s2 ws g3
        case lit => rw [ren]; exact g3
        case undef => rw [ren]; trivial
        all_goals
          have := (g3.2).renamed (M' := M') (wd' := cx.w0) (Ro' := cx.Ro) hnm (outName ds) mk (fun _ _ h => h) (fun _ h => h) (fun _ _ _ => rfl)
          rw [ren] at this ⊢
          exact ⟨rfl, this⟩
  · intro b q b' q' h1 h2 A n A' n' hA hA' hbl
    obtain ⟨⟨t, s, ys⟩, h1⟩ := Option.isSome_iff_exists.1 h1
    obtain ⟨⟨t', s', ys'⟩, h2⟩ := Option.isSome_iff_exists.1 h2
    obtain ⟨o, zs, g1, g2, _⟩ := live b q t s ys h1
    obtain ⟨o', zs', g1', g2', _⟩ := live b' q' t' s' ys' h2
    rw [m1 _ _ _ g1] at hA
    rw [m1 _ _ _ g1'] at hA'
    obtain ⟨rfl, rfl⟩ := R.inj o q o' q' (by rw [g2]; rfl) (by rw [g2']; rfl) A n A' n' hA hA' hbl
    exact ⟨outId_inj hn h5 g1 g1', rfl⟩
  · intro b q t s ys h1 A n hA
    obtain ⟨o, zs, g1, g2, g3, _⟩ := live b q t s ys h1
    rw [m1 _ _ _ g1] at hA
    have hlen : ys.length = zs.length := by rw [g3]; split <;> simp
    rw [hlen]
    exact R.away o q t s zs g2 A n hA
  · have : outId ds b = some b := by unfold outId; rw [if_pos hb]
    show M' b [] = cx.M0 b []
    rw [m1 _ _ _ this]; exact R.root b hb
theorem run_results0 (R : Rel cx M st a w) (fn : Func) {v : V} (h : resV0 G st fn.results.toList = some v) : ∃ u, (results fn a.tmps).run G.P w = .ok u w ∧ VR M cx.w0 cx.Ro v u := by
  have one : ∀ r v, resV1 G st r = some v → ∃ u, ((match r with | .tmp t => pure (a.tmps.getD t Go.undef) | .cell ad t => do loadVar t (← asAddr (a.tmps.getD ad Go.undef))) : Sem Value).run G.P w = .ok u w ∧ VR M cx.w0 cx.Ro v u := by
    intro r v hr
    cases r with
    | tmp t => simp only [resV1, Option.some.injEq] at hr; subst hr; exact ⟨_, rfl, R.regs t⟩
    | cell ad t =>
      have hv := R.regs ad
      simp only [resV1] at hr
      cases hT : st.T ad with
      | ptr b q sz i k =>
        rw [hT] at hr hv
        cases hy : G.tt t with
        | none => rw [hy] at hr; cases hr
        | some y =>
          rw [hy] at hr
          simp only at hr
          cases hrow : rowsAt st.B b q with
          | none => rw [hrow] at hr; cases hr
          | some p =>
            obtain ⟨top, s, xs⟩ := p
            rw [hrow] at hr
            simp only at hr
            split at hr
            · rename_i x hs hx
              have hs := of_decide_eq_true hs
              subst hs
              split at hr
              · rename_i hk
                have hk := of_decide_eq_true hk
                have h1 := (List.getElem?_eq_some_iff.1 hx).1
                have e0 : xs.getD i [] = x := by rw [List.getD_eq_getElem?_getD, hx]; rfl
                obtain ⟨r, g1, g2⟩ := load_ptr R y t hy hv hrow h1 hk
                rw [e0] at g2
                simp only [Option.some.injEq] at hr
                subst hr
                refine ⟨r, ?_, g2⟩
                show (do loadVar t (← asAddr (a.tmps.getD ad Go.undef)) : Sem Value).run G.P w = .ok r w
                have g1 := g1 w (Kp.refl _ _)
                generalize a.tmps.getD ad Go.undef = z at hv g1 ⊢
                cases hv with
                | ptr hM => simpa [Instr.loadAt, Instr.sureAddr, asAddr] using g1
              · cases hr
            · cases hr
      | _ => rw [hT] at hr; cases hr
  have many : ∀ (l : List ResultVar) (vs : List V), l.mapM (resV1 G st) = some vs → ∃ us : List Value, (l.mapM fun r => match r with | .tmp t => pure (a.tmps.getD t Go.undef) | .cell ad t => do loadVar t (← asAddr (a.tmps.getD ad Go.undef)) : Sem (List Value)).run G.P w = .ok us w ∧ us.length = vs.length ∧ ∀ (k : Nat) (v : V) (u : Value), vs[k]? = some v → us[k]? = some u → VR M cx.w0 cx.Ro v u := by
    intro l
    induction l with
    | nil => intro vs h; simp at h; subst h; exact ⟨[], rfl, rfl, by simp⟩
    | cons r l ih =>
      intro vs h
      simp only [List.mapM_cons, Option.bind_eq_bind, Option.bind_eq_some_iff, Option.pure_def, Option.some.injEq] at h
      obtain ⟨v, h1, vs', h2, rfl⟩ := h
      obtain ⟨u, g1, g2⟩ := one r v h1
      obtain ⟨us, g3, g4, g5⟩ := ih vs' h2
      refine ⟨u :: us, ?_, by simp [g4], fun k x y hx hy => ?_⟩
      · simp only [List.mapM_cons, Sem.run_bind, g1, Result.andThen_ok, g3, Sem.run_pure]
      · cases k with
        | zero => simp at hx hy; subst hx; subst hy; exact g2
        | succ k => exact g5 k x y (by simpa using hx) (by simpa using hy)
  unfold results
  rw [Array.mapM_eq_mapM_toList]
  generalize hl : fn.results.toList = l at h ⊢
  have tupcase : ∀ vs, l.length ≠ 1 → l.mapM (resV1 G st) = some vs → v = .tup vs → ∃ u, ((do let vs ← Array.mk <$> l.mapM (fun r => match r with | .tmp t => pure (a.tmps.getD t Go.undef) | .cell ad t => do loadVar t (← asAddr (a.tmps.getD ad Go.undef)) : ResultVar → Sem Value); pure (if h : vs.size = 1 then vs[0] else .tuple vs)) : Sem Value).run G.P w = .ok u w ∧ VR M cx.w0 cx.Ro v u := by
    intro vs hne hm hv
    obtain ⟨us, g1, g2, g3⟩ := many l vs hm
    have hus : us.length ≠ 1 := by
      intro e
      apply hne
      have : vs.length = l.length := by
        clear g1 g3 h hl hne
        clear g2 e hv
        induction l generalizing vs with
        | nil => simp at hm; subst hm; rfl
        | cons r l ih =>
          simp only [List.mapM_cons, Option.bind_eq_bind, Option.bind_eq_some_iff, Option.pure_def, Option.some.injEq] at hm
          obtain ⟨v, h1, vs', h2, rfl⟩ := hm
          simp [ih vs' h2]
      omega
    exact ⟨.tuple us.toArray, by simp only [Sem.run_bind, Sem.run_map, g1, Result.andThen_ok, Sem.run_pure]; simp [hus], by rw [hv]; exact .tup (by simp [g2]) (fun k v u hv hu => g3 k v u hv (by simpa using hu))⟩
  rcases l with _ | ⟨r, _ | ⟨r', l⟩⟩
  · simp [resV0] at h
    exact tupcase [] (by simp) (by simp) h.symm
  · obtain ⟨u, g1, g2⟩ := one r v h
    refine ⟨u, ?_, g2⟩
    cases r with
    | tmp t =>
      have e : a.tmps.getD t Go.undef = u := by simp only [Sem.run_pure, Result.ok.injEq, and_true] at g1; exact g1
      rw [← e]; simp
    | cell ad t =>
      simp only [List.mapM_cons, List.mapM_nil, Sem.run_bind, Sem.run_map] at g1 ⊢
      rw [g1]; simp
  · unfold resV0 at h
    obtain ⟨vs, h1, h2⟩ := Option.map_eq_some_iff.1 h
    exact tupcase vs (by simp) h1 h2.symm
theorem run_results (R : Rel cx M st a w) (fn : Func) {v : V} (h : resV G st fn.results.toList = some v) : ∃ u, (results fn a.tmps).run G.P w = .ok u w ∧ VR M cx.w0 cx.Ro v u := by
  unfold resV at h
  split at h
  · rename_i v0 h0
    cases h
    obtain ⟨u, g1, g2⟩ := run_results0 R fn h0
    exact ⟨u, g1, g2.fix _⟩
  · cases h
theorem Fn.ofX (cut : Cut) {f : Nat} {fn : Func} {c : Code} {args : List V} {bs : Bl} {r : V} {bs' : Bl} (hf : G.P.funcs[f]? = some fn) (hname : (fn.name == "runtime.NumGoroutine") = false) (hb : fn.body = some c) (hN : args.length ≤ fn.ntmps) (hd : dOk fn.ntmps c = true)
    (h : cwpX cut G c { T := fun t => args.getD t .undef, B := toB bs } (EndW G fn.results.toList r bs')) : Fn G f args bs r bs' := by
  refine ⟨⟨fn, hf, hname, by rw [hb]; rfl⟩, fun cx M vals R hv => ?_⟩
  refine calls_of_wp hf hb ?_
  have R0 : Rel { cx with N := fn.ntmps } M { T := fun t => args.getD t .undef, B := toB bs } { tmps := vals ++ Array.replicate (fn.ntmps - vals.size) Go.undef, defers := [] } cx.w0 := by
    refine ⟨rfl, by simp [hv.1]; omega, fun t => ?_, R.flat, R.inj, R.away, R.keep, R.root⟩
    simp only
    by_cases ht : t < args.length
    · have hlt : t < vals.size := by rw [hv.1]; exact ht
      have e1 : (vals ++ Array.replicate (fn.ntmps - vals.size) Go.undef).getD t Go.undef = vals[t] := by
        rw [Array.getD_eq_getD_getElem?, Array.getElem?_append_left hlt, Array.getElem?_eq_getElem hlt]; rfl
      have e2 : args.getD t .undef = args[t] := by rw [List.getD_eq_getElem?_getD, List.getElem?_eq_getElem ht]; rfl
      rw [e1, e2]
      exact hv.2 t _ _ (List.getElem?_eq_getElem ht) (Array.getElem?_eq_getElem hlt)
    · have : args.getD t .undef = .undef := by rw [List.getD_eq_getElem?_getD, List.getElem?_eq_none (by omega)]; rfl
      rw [this]; exact .undef _
  refine wp_mono (cwp_sound cut (cx := { cx with N := fn.ntmps }) c hd _ _ h M _ _ R0) fun e a w hq => ?_
  obtain ⟨M1, st1, ⟨⟨he, ds, hres, hn, h5, hout⟩⟩, R1⟩ := hq
  split at hres
  · rename_i v hvv
    obtain ⟨u, hrun, hvu⟩ := run_results R1 fn hvv
    have fin : ∃ u M', Ending.returned u = .returned u ∧ RelB cx M' (toB bs') w ∧ VR M' cx.w0 cx.Ro r u := by
      refine ⟨u, _, rfl, R1.out hn h5 hout, ?_⟩
      rw [← hres.2]
      exact hvu.renamed hres.1 _ (fun b q hb => by simp only [outId_name h5 hb]) (fun _ _ h => h) (fun _ h => h) (fun _ _ _ => rfl)
    obtain ⟨u', M', _, g1, g2⟩ := fin
    have hbp : a.defers = [] ∧ ∃ v, (results fn a.tmps).run G.P w = .ok v w ∧ ∃ u M', Ending.returned v = .returned u ∧ RelB cx M' (toB bs') w ∧ VR M' cx.w0 cx.Ro r u := by
      refine ⟨R1.defers, u, hrun, u, _, rfl, R1.out hn h5 hout, ?_⟩
      rw [← hres.2]
      exact hvu.renamed hres.1 _ (fun b q hb => by simp only [outId_name h5 hb]) (fun _ _ h => h) (fun _ h => h) (fun _ _ _ => rfl)
    cases e <;> first | exact hbp | exact he.elim
  · exact hres.elim

theorem Fn.of {f : Nat} {fn : Func} {c : Code} {args : List V} {bs : Bl} {r : V} {bs' : Bl} (hf : G.P.funcs[f]? = some fn) (hname : (fn.name == "runtime.NumGoroutine") = false) (hb : fn.body = some c) (hN : args.length ≤ fn.ntmps) (hd : dOk fn.ntmps c = true)
    (h : cwp G c { T := fun t => args.getD t .undef, B := toB bs } (EndW G fn.results.toList r bs')) : Fn G f args bs r bs' := Fn.ofX .no hf hname hb hN hd h
theorem Fn.ofC {f : Nat} {fn : Func} {c : Code} {args : List V} {bs : Bl} {r : V} {bs' : Bl} (hf : G.P.funcs[f]? = some fn) (hname : (fn.name == "runtime.NumGoroutine") = false) (hb : fn.body = some c) (hN : args.length ≤ fn.ntmps) (hd : dOk fn.ntmps c = true)
    (h : cwpX .man G c { T := fun t => args.getD t .undef, B := toB bs } (EndW G fn.results.toList r bs')) : Fn G f args bs r bs' := Fn.ofX .man hf hname hb hN hd h
theorem Fn.ofN (ks bn : List Nat) {f : Nat} {fn : Func} {c : Code} {args : List V} {bs : Bl} {r : V} {bs' : Bl} (hf : G.P.funcs[f]? = some fn) (hname : (fn.name == "runtime.NumGoroutine") = false) (hb : fn.body = some c) (hN : args.length ≤ fn.ntmps) (hd : dOk fn.ntmps c = true)
    (h : cwpX (.auto ks bn) G c { T := fun t => args.getD t .undef, B := toB bs } (EndW G fn.results.toList r bs')) : Fn G f args bs r bs' := Fn.ofX (.auto ks bn) hf hname hb hN hd h
theorem callV_i {st : St} {f : Nat} {args : List V} {d : Option Nat} {K : St → Prop} {r : V} {bs' : Bl} (hF : views noF st.B args (fun args' => FnB G f args' [] r bs')) (h : clean r = true ∧ (bs'.all fun x => x.2.1 == false) = true ∧ K (retSt st d r bs')) : callV G st f args d K := ⟨r, bs', hF, h⟩
theorem callR_i {st : St} {f : Nat} {args : List V} {d : Option Nat} {K : St → Prop} {r : V} {bs' : Bl} (hF : FnB G f args [] r bs') (h : isRoL args = true ∧ names (fun b => decide (500 ≤ b)) r = true ∧ (bs'.all fun x => !x.2.1 || x.2.2.2.all fun c => namesL (fun _ => false) c) = true ∧ K (retSt st d r bs')) : callR G st f args d K := ⟨r, bs', h.1, hF, h.2⟩
/-- The places that a call's arguments name, and the cells of the variables that they point to. -/
def covered : List (Nat × Path) → Nat → Path → Bool
  | [], _, _ => false
  | (b', p) :: l, b, q => match decide (b' = b) with
    | true => (match strip p q with
      | some _ => true
      | none => covered l b q)
    | false => covered l b q
def snocK : List (Nat × Path) → Nat × Path → (List (Nat × Path) → Prop) → Prop
  | [], x, K => K [x]
  | y :: r, x, K => snocK r x fun r' => K (y :: r')
def addK (l : List (Nat × Path)) (b : Nat) (q : Path) (K : List (Nat × Path) → Prop) : Prop := match covered l b q with
  | true => K l
  | false => snocK l (b, q) K
def colC (l : List (Nat × Path)) (v : V) (K : List (Nat × Path) → Prop) : Prop := match v with
  | .sl b q _ _ _ => addK l b q K
  | .ptr b q _ _ _ => addK l b q K
  | _ => K l
def colCs : List V → List (Nat × Path) → (List (Nat × Path) → Prop) → Prop
  | [], l, K => K l
  | v :: r, l, K => colC l v fun l' => colCs r l' K
def colRows : Row → List (Nat × Path) → (List (Nat × Path) → Prop) → Prop
  | [], l, K => K l
  | x :: r, l, K => colCs x l fun l' => colRows r l' K
def colV1 (B : Bs) (l : List (Nat × Path)) (v : V) (K : List (Nat × Path) → Prop) : Prop := match v with
  | .sl b q _ _ _ => addK l b q K
  | .ptr b q _ _ _ => addK l b q fun l' => (match B b with
    | some (true, _, xs) => colRows xs l' K
    | _ => K l')
  | _ => K l
def colV1s (B : Bs) : List V → List (Nat × Path) → (List (Nat × Path) → Prop) → Prop
  | [], l, K => K l
  | v :: r, l, K => colV1 B l v fun l' => colV1s B r l' K
def colVs (B : Bs) : List V → List (Nat × Path) → (List (Nat × Path) → Prop) → Prop
  | [], l, K => K l
  | v :: r, l, K => match v with
    | .agg cs => colV1s B cs l fun l' => colVs B r l' K
    | .fn _ cs => colV1s B cs l fun l' => colVs B r l' K
    | v => colV1 B l v fun l' => colVs B r l' K
theorem snocK_ex : ∀ (l : List (Nat × Path)) (x : Nat × Path) (K : List (Nat × Path) → Prop), snocK l x K → ∃ l', K l' := by
  intro l
  induction l with
  | nil => intro x K h; exact ⟨_, h⟩
  | cons y r ih => intro x K h; obtain ⟨l', h⟩ := ih x _ h; exact ⟨_, h⟩
theorem addK_ex {l : List (Nat × Path)} {b : Nat} {q : Path} {K : List (Nat × Path) → Prop} (h : addK l b q K) : ∃ l', K l' := by
  unfold addK at h
  split at h
  · exact ⟨_, h⟩
  · exact snocK_ex _ _ _ h
theorem colC_ex {l : List (Nat × Path)} {v : V} {K : List (Nat × Path) → Prop} (h : colC l v K) : ∃ l', K l' := by
  unfold colC at h
  split at h <;> first | exact addK_ex h | exact ⟨_, h⟩
theorem colCs_ex : ∀ (vs : List V) (l : List (Nat × Path)) (K : List (Nat × Path) → Prop), colCs vs l K → ∃ l', K l' := by
  intro vs
  induction vs with
  | nil => intro l K h; exact ⟨_, h⟩
  | cons y r ih => intro l K h; obtain ⟨l', h⟩ := colC_ex h; exact ih _ _ h
theorem colRows_ex : ∀ (xs : Row) (l : List (Nat × Path)) (K : List (Nat × Path) → Prop), colRows xs l K → ∃ l', K l' := by
  intro vs
  induction vs with
  | nil => intro l K h; exact ⟨_, h⟩
  | cons y r ih => intro l K h; obtain ⟨l', h⟩ := colCs_ex _ _ _ h; exact ih _ _ h
theorem colV1_ex {B : Bs} {l : List (Nat × Path)} {v : V} {K : List (Nat × Path) → Prop} (h : colV1 B l v K) : ∃ l', K l' := by
  unfold colV1 at h
  split at h
  · exact addK_ex h
  · obtain ⟨l', h⟩ := addK_ex h
    split at h
    · exact colRows_ex _ _ _ h
    · exact ⟨_, h⟩
  · exact ⟨_, h⟩
theorem colV1s_ex {B : Bs} : ∀ (vs : List V) (l : List (Nat × Path)) (K : List (Nat × Path) → Prop), colV1s B vs l K → ∃ l', K l' := by
  intro vs
  induction vs with
  | nil => intro l K h; exact ⟨_, h⟩
  | cons y r ih => intro l K h; obtain ⟨l', h⟩ := colV1_ex h; exact ih _ _ h
theorem colVs_ex {B : Bs} : ∀ (vs : List V) (l : List (Nat × Path)) (K : List (Nat × Path) → Prop), colVs B vs l K → ∃ l', K l' := by
  intro vs
  induction vs with
  | nil => intro l K h; exact ⟨_, h⟩
  | cons y r ih =>
    intro l K h
    unfold colVs at h
    split at h
    · obtain ⟨l', h⟩ := colV1s_ex _ _ _ h; exact ih _ _ h
    · obtain ⟨l', h⟩ := colV1s_ex _ _ _ h; exact ih _ _ h
    · obtain ⟨l', h⟩ := colV1_ex h; exact ih _ _ h
def resFree (d : Nat) : List (Nat × Path) → Bool
  | [] => true
  | (b, _) :: r => match (resId d b).isNone with
    | true => resFree d r
    | false => false
theorem resFree_ok {d : Nat} : ∀ {l : List (Nat × Path)}, resFree d l = true → (l.all fun x => (resId d x.1).isNone) = true := by
  intro l
  induction l with
  | nil => intro _; rfl
  | cons x r ih =>
    obtain ⟨b, p⟩ := x
    intro h
    simp only [resFree] at h
    split at h
    · rename_i hb
      rw [List.all_cons, ih h, hb]; rfl
    · cases h
def lowOk (n : Nat) : Bl → Bool
  | [] => true
  | (b, _) :: r => match decide (b < 500) with
    | true => (match decide (b < n) with
      | true => lowOk n r
      | false => false)
    | false => lowOk n r
theorem lowOk_ok {n : Nat} : ∀ {bs : Bl}, lowOk n bs = true → (bs.all fun x => (!decide (x.1 < 500) || decide (x.1 < n)) && (!false || !x.2.1 || x.2.2.2.all noRoL)) = true := by
  intro l
  induction l with
  | nil => intro _; rfl
  | cons x r ih =>
    obtain ⟨b, p⟩ := x
    intro h
    simp only [lowOk] at h
    rw [List.all_cons]
    split at h
    · rename_i hb
      split at h
      · rename_i hn
        rw [ih h, hn]; simp
      · cases h
    · rename_i hb
      rw [ih h, hb]; simp
/-- A row that comes back, put where it stood. -/
def putRow (d : Nat) (l0 : List (Nat × Path)) (b : Nat) (p : Path) (t : Bool) (s : Nat) (xs : Row) (B : Bs) : Bs := match p, t with
  | [], false => upd B b (some (false, s, xs))
  | p, t => setB B b p (fun _ => rowOut d l0 t xs)
/-- What must come back, then the rest, with what puts it back. -/
def backA (B : Bs) (bs' : Bl) (d : Nat) (l0 : List (Nat × Path)) : List (Nat × Path) → Nat → ((Bs → Bs) → Prop) → Prop
  | [], _, K => K (fun B => B)
  | (b, p) :: l, j, K => match rowsAt B b p, toB bs' j with
    | some (t, s, xs), some (t', s', xs') => chk (decide (t' = t)) (chk (decide (s' = s)) (xs'.length = xs.length ∧ backA B bs' d l0 l (j + 1) (fun F => K (fun B => putRow d l0 b p t' s' xs' (F B)))))
    | some _, none => chk (decide (500 ≤ b)) (chk p.isEmpty (backA B bs' d l0 l (j + 1) (fun F => K (fun B => setB (F B) b p (newRow (outBl d l0 bs') j)))))
    | none, _ => False
theorem modAt_congr {g g' : Row → Row} : ∀ (q : Path) (sz : Nat) (xs : Row) (s : Nat) (ys : Row), sub sz xs q = some (s, ys) → g ys = g' ys → modAt xs q g = modAt xs q g' := by
  intro q
  induction q with
  | nil => intro sz xs s ys h e; simp only [sub, Option.some.injEq, Prod.mk.injEq] at h; simp only [modAt]; rw [h.2, e]
  | cons x q ih =>
    obtain ⟨i, k⟩ := x
    intro sz xs s ys h e
    simp only [sub] at h
    simp only [modAt]
    split at h
    · rename_i sz' zs hc
      rw [ih _ _ _ _ h e]
    · cases h
theorem setB_congr {B : Bs} {b : Nat} {p : Path} {g g' : Row → Row} {t : Bool} {s : Nat} {xs : Row} (h : rowsAt B b p = some (t, s, xs)) (e : g xs = g' xs) : setB B b p g = setB B b p g' := by
  funext b'
  unfold setB
  by_cases hb : b' = b
  · simp only [hb, if_true]
    unfold rowsAt at h
    split at h
    · cases h
    · rename_i t2 s2 zs hB
      obtain ⟨y, hy, h2⟩ := Option.map_eq_some_iff.1 h
      rw [hB]
      simp only [Option.map_some]
      rw [modAt_congr p s2 zs y.1 y.2 hy (by cases h2; exact e)]
  · simp only [hb, if_false]
theorem putRow_eq {d : Nat} {l0 : List (Nat × Path)} {bs' : Bl} {b : Nat} {p : Path} {t : Bool} {s : Nat} {xs ys : Row} {B : Bs} {j : Nat} (h : rowsAt B b p = some (t, s, ys)) (e : toB bs' j = some (t, s, xs)) (hl : xs.length = ys.length) : putRow d l0 b p t s xs B = setB B b p (newRow (outBl d l0 bs') j) := by
  have hn : newRow (outBl d l0 bs') j ys = rowOut d l0 t xs := by
    unfold newRow
    rw [toB_outBl, e]
    simp only [Option.map_some]
    rw [decide_eq_true (by rw [rowOut_length]; exact hl)]
  unfold putRow
  split
  · funext b'
    unfold upd setB
    by_cases hb : b' = b
    · subst hb
      simp only [if_true]
      unfold rowsAt at h
      split at h
      · cases h
      · rename_i t2 s2 zs hB
        simp only [sub, Option.map_some, Option.some.injEq, Prod.mk.injEq, List.isEmpty_nil, Bool.and_true] at h
        obtain ⟨h1, h2, h3⟩ := h
        subst h1 h2 h3
        rw [hB]
        simp only [Option.map_some, modAt]
        rw [hn]; rfl
    · simp only [hb, if_false]
  · exact setB_congr h hn.symm
theorem backA_ok {B : Bs} {bs' : Bl} {d : Nat} {l0 : List (Nat × Path)} : ∀ (l : List (Nat × Path)) (j : Nat) (K : (Bs → Bs) → Prop), backA B bs' d l0 l j K → backG B bs' l j ∧ ∃ F, K F ∧ (apartB l = true → ∀ B2, (∀ b p t s xs, rowsAt B b p = some (t, s, xs) → ∃ ys, rowsAt B2 b p = some (t, s, ys) ∧ ys.length = xs.length) → F B2 = setsB l j (outBl d l0 bs') B2) := by
  intro l
  induction l with
  | nil => intro j K h; exact ⟨trivial, _, h, fun _ _ _ => rfl⟩
  | cons y l ih =>
    obtain ⟨b, p⟩ := y
    intro j K h
    simp only [backA] at h
    simp only [backG]
    split at h
    · rename_i t s xs t' s' xs' e1 e2
      simp only [chk_iff, decide_eq_true_eq] at h
      obtain ⟨h1, h2, h3, h4⟩ := h
      obtain ⟨g1, F, g2, g3⟩ := ih _ _ h4
      refine ⟨⟨?_, g1⟩, _, g2, fun ha B2 hB => ?_⟩
      · rw [e1, e2]; simp only [chk_iff, decide_eq_true_eq]; exact ⟨h1, h2, h3⟩
      · simp only [apartB, Bool.and_eq_true] at ha
        simp only [setsB]
        rw [g3 ha.2 B2 hB]
        obtain ⟨ys, h5, h6⟩ := hB b p t s xs e1
        subst h1 h2
        exact putRow_eq (sets_else l (j + 1) _ B2 ha.1 h5) e2 (by rw [h3, h6])
    · rename_i e1 e2
      simp only [chk_iff, decide_eq_true_eq] at h
      obtain ⟨h1, h2, h4⟩ := h
      obtain ⟨g1, F, g2, g3⟩ := ih _ _ h4
      refine ⟨⟨?_, g1⟩, _, g2, fun ha B2 hB => ?_⟩
      · rw [e1, e2]; simp only [chk_iff, decide_eq_true_eq]; exact ⟨h1, h2, trivial⟩
      · simp only [apartB, Bool.and_eq_true] at ha
        simp only [setsB]
        rw [g3 ha.2 B2 hB]
    · exact h.elim
/-- The state behind a call to which all was handed. -/
def retA (st : St) (l : List (Nat × Path)) (o : Option Nat) (r : V) (bs' : Bl) (F : Bs → Bs) : St :=
  { T := updO (fun t => kill (killG (o.getD 999) l bs') (st.T t)) o (outV (o.getD 999) l r), B := fun b => match resId (o.getD 999) b with
    | some j => toB (outBl (o.getD 999) l bs') j
    | none => match gone bs' l 0 b with
      | true => none
      | false => F (killB (killG (o.getD 999) l bs') st.B) b }
/-- A call to which all that its arguments name is handed. -/
def callA (G : Pg) (st : St) (f : Nat) (args : List V) (d : Option Nat) (K : St → Prop) : Prop :=
  colVs st.B args [] fun l => chk (apartB l) (chk (resFree (d.getD 999) l) (chk (decide (l.length < 500)) (∃ r bs', handG st.B l l 0 (fun bs => views (foc l 0) noB args fun args' => FnB G f args' bs r bs') ∧ lowOk l.length bs' = true ∧ backA st.B bs' (d.getD 999) l l 0 (fun F => K (retA st l d r bs' F)))))
theorem callA_ok {st : St} {f : Nat} {args : List V} {d : Option Nat} {K : St → Prop} (h : callA G st f args d K) : callG G st f args d K := by
  obtain ⟨l, h⟩ := colVs_ex _ _ _ h
  simp only [chk_iff] at h
  obtain ⟨h1, h2, h3, r, bs', h4, h5, h6⟩ := h
  obtain ⟨h6, F, h7, h8⟩ := backA_ok _ _ _ h6
  refine ⟨false, l, r, bs', h1, resFree_ok h2, h3, rfl, lowOk_ok h5, h4, h6, ?_⟩
  have e : F (killB (killG (d.getD 999) l bs') st.B) = setsB l 0 (outBl (d.getD 999) l bs') (killB (killG (d.getD 999) l bs') st.B) :=
    h8 h1 _ fun b p t s xs hx => ⟨_, by rw [rowsAt_killB, hx]; rfl, killRow_length _ _ _⟩
  unfold retA at h7
  rw [e] at h7
  exact h7
/-- A call that is handed one row that a cell owns, and a number. -/
def callO (G : Pg) (st : St) (f : Nat) (args : List V) (d : Option Nat) (K : St → Prop) : Prop := match args with
  | [.sl b [(i, k)] sz 0 len, .lit (.int kd n)] => (match st.B b with
    | some (false, s0, R) => chk (resId (d.getD 999) b).isNone (∃ ys, cellAt R i k = some (.own sz ys) ∧ ∃ x ys', FnB G f [.sl 0 [] sz 0 len, .lit (.int kd n)] [(0, false, sz, ys)] (.lit x) [(0, false, sz, ys')] ∧ ys'.length = ys.length ∧
        K (retA st [(b, [(i, k)])] d (.lit x) [(0, false, sz, ys')] fun B => upd B b (some (false, s0, setCell R i k (.own sz ys')))))
    | _ => False)
  | _ => False
theorem callO_ok {st : St} {f : Nat} {args : List V} {d : Option Nat} {K : St → Prop} (h : callO G st f args d K) : callG G st f args d K := by
  unfold callO at h
  split at h
  · rename_i b i k sz len kd n
    split at h
    · rename_i s0 R hB
      simp only [chk_iff] at h
      obtain ⟨hres, ys, hc, x, ys', hF, hlen, hK⟩ := h
      have hrow : rowsAt st.B b [(i, k)] = some (false, sz, ys) := by unfold rowsAt; rw [hB]; simp [sub, hc]
      refine ⟨false, [(b, [(i, k)])], .lit x, [(0, false, sz, ys')], by simp [apartB, apart1], by simpa using hres, rfl, rfl, by simp, ?_, ?_, ?_⟩
      · simp only [handG, hrow, rowIn]
        simp [views, view, view1, foc, strip]
        exact hF
      · simp [backG, hrow, toB, upd, hlen, chk]
      · have e : (upd (killB (killG (d.getD 999) [(b, [(i, k)])] [(0, false, sz, ys')]) st.B) b (some (false, s0, setCell R i k (.own sz ys')))) = setsB [(b, [(i, k)])] 0 (outBl (d.getD 999) [(b, [(i, k)])] [(0, false, sz, ys')]) (killB (killG (d.getD 999) [(b, [(i, k)])] [(0, false, sz, ys')]) st.B) := by
          funext b'
          unfold setsB setB upd
          by_cases hb : b' = b
          · subst hb
            simp only [if_true, setsB, killB, hB, Option.map_some, killRow, Bool.false_eq_true, if_false]
            simp [modAt, hc, newRow, outBl, toB, upd, rowOut, hlen]
          · simp only [hb, if_false, setsB]
        unfold retA at hK
        simp only [e] at hK
        exact hK
    · exact h.elim
  · exact h.elim
/-- A call that is handed one row that a cell owns, and two numbers; it may tell that row. -/
def callP (G : Pg) (st : St) (f : Nat) (args : List V) (d : Option Nat) (K : St → Prop) : Prop := match args with
  | [.sl b [(i, k)] sz 0 len, .lit (.int kd n), .lit (.int kd2 m)] => (match st.B b with
    | some (false, s0, R) => chk (resId (d.getD 999) b).isNone (∃ ys, cellAt R i k = some (.own sz ys) ∧ ∃ r ys', FnB G f [.sl 0 [] sz 0 len, .lit (.int kd n), .lit (.int kd2 m)] [(0, false, sz, ys)] r [(0, false, sz, ys')] ∧ ys'.length = ys.length ∧
        K (retA st [(b, [(i, k)])] d r [(0, false, sz, ys')] fun B => upd B b (some (false, s0, setCell R i k (.own sz ys')))))
    | _ => False)
  | _ => False
theorem callP_ok {st : St} {f : Nat} {args : List V} {d : Option Nat} {K : St → Prop} (h : callP G st f args d K) : callG G st f args d K := by
  unfold callP at h
  split at h
  · rename_i b i k sz len kd n kd2 m
    split at h
    · rename_i s0 R hB
      simp only [chk_iff] at h
      obtain ⟨hres, ys, hc, r, ys', hF, hlen, hK⟩ := h
      have hrow : rowsAt st.B b [(i, k)] = some (false, sz, ys) := by unfold rowsAt; rw [hB]; simp [sub, hc]
      refine ⟨false, [(b, [(i, k)])], r, [(0, false, sz, ys')], by simp [apartB, apart1], by simpa using hres, rfl, rfl, by simp, ?_, ?_, ?_⟩
      · simp only [handG, hrow, rowIn]
        simp [views, view, view1, foc, strip]
        exact hF
      · simp [backG, hrow, toB, upd, hlen, chk]
      · have e : (upd (killB (killG (d.getD 999) [(b, [(i, k)])] [(0, false, sz, ys')]) st.B) b (some (false, s0, setCell R i k (.own sz ys')))) = setsB [(b, [(i, k)])] 0 (outBl (d.getD 999) [(b, [(i, k)])] [(0, false, sz, ys')]) (killB (killG (d.getD 999) [(b, [(i, k)])] [(0, false, sz, ys')]) st.B) := by
          funext b'
          unfold setsB setB upd
          by_cases hb : b' = b
          · subst hb
            simp only [if_true, setsB, killB, hB, Option.map_some, killRow, Bool.false_eq_true, if_false]
            simp [modAt, hc, newRow, outBl, toB, upd, rowOut, hlen]
          · simp only [hb, if_false, setsB]
        unfold retA at hK
        simp only [e] at hK
        exact hK
    · exact h.elim
  · exact h.elim
/-- A call that looks at one row that a cell owns, and at a number. -/
def callL (G : Pg) (st : St) (f : Nat) (args : List V) (d : Option Nat) (K : St → Prop) : Prop := match args with
  | [.sl b [(i, k)] sz 0 len, .lit (.int kd n)] => (match st.B b with
    | some (false, s0, R) => ∃ ys, cellAt R i k = some (.own sz ys) ∧ len = ys.length ∧ ∃ r bs', FnB G f [.imm sz ys, .lit (.int kd n)] [] r bs' ∧ clean r = true ∧ (bs'.all fun x => x.2.1 == false) = true ∧ K (retSt st d r bs')
    | _ => False)
  | _ => False
theorem callL_ok {st : St} {f : Nat} {args : List V} {d : Option Nat} {K : St → Prop} (h : callL G st f args d K) : callV G st f args d K := by
  unfold callL at h
  split at h
  · rename_i b i k sz len kd n
    split at h
    · rename_i s0 R hB
      obtain ⟨ys, hc, rfl, r, bs', hF, h1, h2, hK⟩ := h
      have hrow : rowsAt st.B b [(i, k)] = some (false, sz, ys) := by unfold rowsAt; rw [hB]; simp [sub, hc]
      refine ⟨r, bs', ?_, h1, h2, hK⟩
      simp [views, view, view1, noF, hrow, chk]
      exact hF
    · exact h.elim
  · exact h.elim
end Go.Proofs.Ytniibpihbopehaa.M

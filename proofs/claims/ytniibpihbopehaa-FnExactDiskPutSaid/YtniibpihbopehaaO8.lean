/- Calls that only look are right. -/
import Derived.Test.YtniibpihbopehaaO7
namespace Go.Proofs.Ytniibpihbopehaa.M
open Go Go.RowKit
set_option linter.unusedVariables false
set_option linter.unusedSimpArgs false
variable {cx : Cx} {M M' : Mp} {st : St} {a : Act} {w w' : World} {G : Pg} {p : Nat → Path → Bool}
/-- Behind a call. -/
def Back (cx : Cx) (a : Act) (o : Option Nat) (K : St → Prop) (e : Ending) (w' : World) : Prop := ∃ u M' st', e = .returned u ∧ K st' ∧ Rel cx M' st' (a.put o u) w'
theorem back_put {K : St → Prop} {o : Option Nat} {B : Bs} {T : Nat → V} {v : V} {u : Value} (R : Rel cx M { T := T, B := B } a w) (ho : ∀ d, o = some d → d < cx.N) (hv : VR M cx.w0 cx.Ro v u) (hK : K { T := updO T o v, B := B }) : Back cx a o K (.returned u) w := by
  cases o with
  | none => exact ⟨u, M, _, rfl, hK, R⟩
  | some d => exact ⟨u, M, _, rfl, hK, R.put d (ho d rfl) hv⟩
theorem callV_sound (R : Rel cx M st a w) {f : Nat} {args : List V} {o : Option Nat} {K : St → Prop} {vals : Array Value} (h : callV G st f args o K) (hd : o.getD 999 < 1000) (ho : ∀ d, o = some d → d < cx.N) (hv : VRs M cx.w0 cx.Ro args vals) : (∃ fn, G.P.funcs[f]? = some fn ∧ (fn.name == "runtime.NumGoroutine") = false ∧ fn.body.isSome = true) ∧ Calls G.P f vals w (Back cx a o K) := by
  obtain ⟨r, bs', h1, h2, h3, hK⟩ := h
  have cells : ∀ k u : Nat, True := fun _ _ => trivial
  obtain ⟨args', hF, hl, hvs⟩ := views_ok R (F := noF) (fun k hk => R.roLt hk) (fun b q x A n h1 h2 => R.block_lt h1 h2) M (fun _ _ _ _ h => by cases h) args vals.toList _ h1 (by rw [Array.length_toList]; exact hv.1) (fun k v u hv' hu => hv.2 k v u hv' (by simpa using hu))
  obtain ⟨hfn, hF⟩ := hF.h
  refine ⟨hfn, ?_⟩
  let cx1 : Cx := ⟨w, oldRo w, fun _ _ => False, 0, fun _ => False, M, fun k hk => hk, fun _ _ _ h => h, R.globTo fun k hk => R.roLt hk⟩
  have c := hF cx1 M vals (relB_nil w cx1 rfl M rfl) ⟨by rw [← Array.length_toList]; exact hl, fun k v u hv' hu => hvs k v u hv' (by simpa using hu)⟩
  refine c.mono fun e w' hw => ?_
  obtain ⟨u, M1, rfl, R1, hr⟩ := hw
  have hclosed : ∀ j x, toB bs' j = some x → x.1 = true → False := by
    intro j x hx ht
    have := List.all_eq_true.1 h3 _ (toB_mem hx)
    simp [ht] at this
  have Ri := R.import (d := o.getD 999) hd R1 rfl (fun k hk => hk) (fun k o hk => hk) (fun j x hx _ ht => (hclosed j x hx ht).elim)
  exact back_put Ri ho (hr.cleaned h2 _ (fun b q hb => by simp only [resId_name hd hb])) hK
theorem callR_sound (R : Rel cx M st a w) {f : Nat} {args : List V} {o : Option Nat} {K : St → Prop} {vals : Array Value} (h : callR G st f args o K) (hd : o.getD 999 < 1000) (ho : ∀ d, o = some d → d < cx.N) (hv : VRs M cx.w0 cx.Ro args vals) : (∃ fn, G.P.funcs[f]? = some fn ∧ (fn.name == "runtime.NumGoroutine") = false ∧ fn.body.isSome = true) ∧ Calls G.P f vals w (Back cx a o K) := by
  obtain ⟨r, bs', h1, hF, h2, h3, hK⟩ := h
  obtain ⟨hfn, hF⟩ := hF.h
  refine ⟨hfn, ?_⟩
  have hc : ∀ k o, cx.Ro k → w.cell? ⟨k, o, none⟩ = cx.w0.cell? ⟨k, o, none⟩ := fun k o hk => R.roCell hk
  let cx1 : Cx := ⟨w, cx.Ro, fun _ _ => False, 0, fun _ => False, M, fun k hk => R.roLt hk, fun _ _ _ h => h, R.globTo fun k hk => hk⟩
  have c := hF cx1 M vals (relB_nil w cx1 rfl M rfl) ⟨hv.1, fun k v u hv' hu => (hv.2 k v u hv' hu).roTo (isRoL_get h1 k v hv') hc⟩
  refine c.mono fun e w' hw => ?_
  obtain ⟨u, M1, rfl, R1, hr⟩ := hw
  have hren : ∀ j x, toB bs' j = some x → 500 ≤ j → x.1 = true → ∀ i k v, cellAt x.2.2 i k = some v → names (fun _ => false) v = true := by
    intro j x hx _ ht i k v hc'
    have := List.all_eq_true.1 h3 _ (toB_mem hx)
    simp only [ht, Bool.not_true, Bool.false_or] at this
    unfold cellAt at hc'
    cases hy : x.2.2[i]? with
    | none => rw [hy] at hc'; cases hc'
    | some y =>
      rw [hy] at hc'
      exact namesL_get (List.all_eq_true.1 this y (List.mem_of_getElem? hy)) k v hc'
  have tr : ∀ (ok : Nat → Bool) (v : V) (u : Value), names ok v = true → (∀ b, ok b = true → 500 ≤ b) → VR M1 w cx.Ro v u → VR (fun b q => match resId (o.getD 999) b with | some j => M1 j q | none => M b q) cx.w0 cx.Ro (ren (resName (o.getD 999)) v) u := by
    intro ok v u hn hok hv'
    exact hv'.renamed hn _ (fun b q hb => by simp only [resId_name hd (hok b hb)]) (fun v u h => Rd.mono (fun _ hk => hk) (fun k o hk => (hc k o hk).symm) h) (fun _ hk => hk) (fun k o hk => (hc k o hk).symm)
  have Ri := R.import (d := o.getD 999) hd R1 rfl (fun k hk => hk) (fun k o hk => hk) (fun j x hx hj ht i k v u hc' hv' => by
    have hn := hren j x hx hj ht i k v hc'
    have := tr _ v u hn (fun b hb => by cases hb) hv'
    rw [ren_id v hn] at this
    exact this)
  exact back_put Ri ho (tr _ r u h2 (fun b hb => of_decide_eq_true hb) hr) hK
end Go.Proofs.Ytniibpihbopehaa.M

/- Operations that only read: what each tells of values, and that the model's operation tells just that. -/
import Derived.Test.YtniibpihbopehaaM1
namespace Go.Proofs.Ytniibpihbopehaa.M
open Go Go.RowKit
set_option linter.unusedVariables false
set_option linter.unusedSimpArgs false
/-- What is known of a type. -/
structure Ty where
  agg : Bool := false
  size : Nat := 1
  bytes : Nat := 8
  sl : Option Nat := none
  str : Bool := false
  flds : List (Nat × Nat) := []
  zero : List V := []
  ik : Option IntKind := none
  bool : Bool := false
def ZR : V → Value → Prop
  | .lit x, v => v = x ∧ v.oneCell' = true
  | .own _ [], v => v = .slice none 0 0
  | _, _ => False
structure TOk (P : Program) (t : Nat) (y : Ty) : Prop where
  info : ∃ (i : TypeInfo) (z : Value), P.info? t = some i ∧ i.size = y.size ∧ i.bytes = y.bytes ∧ i.zero = some z ∧ z.cells.size = y.zero.length ∧ y.zero.length = y.size ∧ (∀ (k : Nat) (v : V) (u : Value), y.zero[k]? = some v → z.cells[k]? = some u → ZR v u) ∧ (y.agg = false → ∃ u, z = u ∧ u.cells = #[u])
  st : y.agg = true → ∃ fs, P.underlying t = some (.struct fs) ∧ fs.toList.map (fun f => (f.offset, f.type)) = y.flds
  flat : y.agg = false → y.size = 1 ∧ ∃ d, P.underlying t = some d ∧ (∀ fs, d ≠ .struct fs) ∧ (∀ n e, d ≠ .array n e)
  sl : ∀ e, y.sl = some e → P.underlying t = some (.slice e)
  str : y.str = true → P.underlying t = some .string
  ik : ∀ k, y.ik = some k → P.underlying t = some (.int k)
  bool : y.bool = true → P.underlying t = some .bool
  pos : 0 < y.size
structure Pg where
  P : Program
  tt : Nat → Option Ty
  ok : ∀ t y, tt t = some y → TOk P t y
  mixed : P.follows .mixedOrders = true
variable {cx : Cx} {M : Mp} {st : St} {a : Act} {w : World} {G : Pg}
theorem run_sizeOf' {P : Program} {t : TypeId} {i : TypeInfo} (h : P.info? t = some i) (w : World) : (sizeOf t).run P w = .ok i.size w := by simp [sizeOf, typeInfo, h]
theorem run_isAgg_st {P : Program} {t : TypeId} {fs : Array Field} (h : P.underlying t = some (.struct fs)) (w : World) : (isAgg t).run P w = .ok true w := by simp [isAgg, run_underlying h]
theorem run_isAgg_no {P : Program} {t : TypeId} {d : TypeDesc} (h : P.underlying t = some d) (h1 : ∀ fs, d ≠ .struct fs) (h2 : ∀ n e, d ≠ .array n e) (w : World) : (isAgg t).run P w = .ok false w := by
  simp only [isAgg, Sem.run_bind, run_underlying h, Result.andThen_ok]
  cases d <;> first | rfl | exact absurd rfl (h1 _) | exact absurd rfl (h2 _ _)
theorem add_plain (g o j : Nat) : (⟨g, o, none⟩ : Addr).add j = ⟨g, o + j, none⟩ := Addr.add_lit g o j
theorem add_of_spot {A : Addr} (h : A.spot = none) (j : Nat) : A.add j = ⟨A.block, A.off + j, none⟩ := by
  obtain ⟨b, o, s⟩ := A; simp only at h; subst h; exact add_plain _ _ _
theorem eta_of_spot {A : Addr} (h : A.spot = none) : A = ⟨A.block, A.off, none⟩ := by obtain ⟨b, o, s⟩ := A; simp only at h; subst h; rfl
/-- Loading cells at an address. -/
theorem run_loadVar_agg (y : Ty) (t : Nat) (hy : G.tt t = some y) (hagg : y.agg = true) (ad : Addr) (us : List Value) (hl : us.length = y.size) (h : ∀ j u, us[j]? = some u → w.cell? (ad.add j) = some u) :
    (loadVar t ad).run G.P w = .ok (.agg us.toArray) w := by
  obtain ⟨fs, hf, _⟩ := (G.ok t y hy).st hagg
  obtain ⟨i, z, hi, hs, _⟩ := (G.ok t y hy).info
  simp only [loadVar, Sem.run_bind, run_isAgg_st hf, Result.andThen_ok, if_true, run_sizeOf' hi, hs, ← hl, run_loadCells_list _ ad us h, Sem.run_pure]
theorem run_loadVar_one (y : Ty) (t : Nat) (hy : G.tt t = some y) (hagg : y.agg = false) (ad : Addr) (u : Value) (h : w.cell? ad = some u) : (loadVar t ad).run G.P w = .ok u w := by
  obtain ⟨_, d, hd, h1, h2⟩ := (G.ok t y hy).flat hagg
  simp [loadVar, Sem.run_bind, run_isAgg_no hd h1 h2, run_load, h]
/-- What is loaded from a place of a box, from what is only read. -/
def lv (b : Nat) (q : Path) (i k : Nat) : V → V
  | .own s ys => .sl b (q ++ [(i, k)]) s 0 ys.length
  | v => v
def ro : V → V
  | .own s ys => .imm s ys
  | v => v
def lvs (b : Nat) (q : Path) (i : Nat) : Nat → List V → List V
  | _, [] => []
  | k, v :: r => lv b q i k v :: lvs b q i (k + 1) r
theorem lvs_length (b : Nat) (q : Path) (i : Nat) (l : List V) : ∀ k, (lvs b q i k l).length = l.length := by
  induction l with
  | nil => intro k; rfl
  | cons v r ih => intro k; simp [lvs, ih]
theorem lvs_get (b : Nat) (q : Path) (i : Nat) (l : List V) : ∀ k j, (lvs b q i k l)[j]? = (l[j]?).map (lv b q i (k + j)) := by
  induction l with
  | nil => intro k j; simp [lvs]
  | cons v r ih =>
    intro k j
    cases j with
    | zero => simp [lvs]
    | succ j => simp only [lvs, List.getElem?_cons_succ, ih]; rw [show k + 1 + j = k + (j + 1) by omega]
theorem CR.vr {top : Bool} {b : Nat} {q : Path} {i k : Nat} {v : V} {u : Value} {Ro : Nat → Prop} (h : CR M w Ro top b q i k v u) : VR M w Ro (lv b q i k v) u := by
  cases v <;> simp only [CR] at h <;> simp only [lv]
  case lit x => subst h; exact .lit _
  case own => exact h
  case undef => exact .undef _
  all_goals exact h.2
theorem Rd.vr {Ro : Nat → Prop} {v : V} {u : Value} (h : Rd w Ro v u) : VR M w Ro (ro v) u := by
  cases h with
  | lit x => exact .lit _
  | undef x => exact .undef _
  | nil hv => rcases hv with rfl | rfl <;> exact .imm (.nil (.inr rfl))
  | row U hv h1 h2 h3 h4 h5 h6 => rcases hv with rfl | rfl <;> exact .imm (.row U (.inr rfl) h1 h2 h3 h4 h5 h6)
/-- A cell of a row in memory. -/
theorem Rel.cell_ (R : Rel cx M st a w) {b : Nat} {q : Path} {top : Bool} {sz : Nat} {xs : Row} (h : rowsAt st.B b q = some (top, sz, xs)) {A : Addr} {n : Nat} (hM : M b q = some (A, n)) {i k : Nat} {v : V} (hc : cellAt xs i k = some v) :
    ∃ u, w.cell? ⟨A.block, A.off + i * sz + k, none⟩ = some u ∧ u.oneCell' = true ∧ CR M cx.w0 cx.Ro top b q i k v u := (R.flat b q top sz xs h).cell A n hM i k v hc
theorem cellAt_of {xs : Row} {i k : Nat} {x : List V} (h : xs[i]? = some x) : cellAt xs i k = x[k]? := by simp [cellAt, h]
theorem getD_of_lt {xs : Row} {i : Nat} (h : i < xs.length) : xs[i]? = some (xs.getD i []) := by simp [List.getD_eq_getElem?_getD, List.getElem?_eq_getElem h]
theorem choose_list {α : Type} (n : Nat) (p : Nat → α → Prop) (h : ∀ j, j < n → ∃ u, p j u) : ∃ us : List α, us.length = n ∧ ∀ (j : Nat) (u : α), us[j]? = some u → p j u := by
  induction n with
  | zero => exact ⟨[], rfl, fun j u hj => by simp at hj⟩
  | succ n ih =>
    obtain ⟨us, hl, hu⟩ := ih (fun j hj => h j (by omega))
    obtain ⟨u, hp⟩ := h n (by omega)
    refine ⟨us ++ [u], by simp [hl], fun j v hj => ?_⟩
    rcases Nat.lt_or_ge j n with hlt | hge
    · rw [List.getElem?_append_left (by omega)] at hj; exact hu j v hj
    · have : j = n := by
        have := (List.getElem?_eq_some_iff.1 hj).1; simp [hl] at this; omega
      subst this
      rw [List.getElem?_append_right (by omega), hl] at hj
      simp at hj; subst hj; exact hp
theorem Kp.old {w w' : World} (h : Sm w w') {A : Addr} {u : Value} (hu : w.cell? A = some u) : w'.cell? A = some u := by
  obtain ⟨b, o, s⟩ := A
  have key : s = none ∧ b < w.heap.size := by
    unfold World.cell? at hu
    split at hu
    · rename_i c e f hb
      split at hu
      · cases hu
      · rename_i hs
        exact ⟨by simpa using hs, (Array.getElem?_eq_some_iff.1 hb).1⟩
    · cases hu
  obtain ⟨rfl, hb⟩ := key
  rw [h.cell b o hb (fun h => h)]; exact hu
theorem Rel.spared (R : Rel cx M st a w) {b : Nat} {q : Path} {top : Bool} {sz : Nat} {xs : Row} (h : rowsAt st.B b q = some (top, sz, xs)) {A : Addr} {n : Nat} (hM : M b q = some (A, n)) {i k : Nat} (hi : i < xs.length) (hk : k < sz) : ¬ Spare st.B M A.block (A.off + i * sz + k) := by
  rintro ⟨b', q', sz', xs', A', n', h1, h2, h3, h4⟩
  obtain ⟨rfl, rfl⟩ := R.inj b q b' q' (by rw [h]; rfl) (by rw [h1]; rfl) A n A' n' hM h2 h3.symm
  rw [h] at h1
  rw [hM] at h2
  simp only [Option.some.injEq, Prod.mk.injEq] at h1 h2
  obtain ⟨_, rfl, rfl⟩ := h1
  obtain ⟨rfl, _⟩ := h2
  have : (i + 1) * sz ≤ xs.length * sz := Nat.mul_le_mul_right _ hi
  rw [Nat.add_mul] at this
  omega
theorem Rel.roSpared (R : Rel cx M st a w) {k o : Nat} (h : cx.Ro k) : ¬ Spare st.B M k o := by
  rintro ⟨b', q', sz', xs', A', n', h1, h2, rfl, h4⟩
  exact (R.away _ _ _ _ _ h1 _ _ h2).1 h
theorem load_ptr (R : Rel cx M st a w) (y : Ty) (t : Nat) (hy : G.tt t = some y) {b : Nat} {q : Path} {sz i k : Nat} {u : Value} (hv : VR M cx.w0 cx.Ro (.ptr b q sz i k) u) {top : Bool} {xs : Row} (h : rowsAt st.B b q = some (top, sz, xs)) (hi : i < xs.length) (hk : k + y.size ≤ sz) :
    ∃ r, (∀ w', Ks st.B M w w' → (Instr.loadAt t u).run G.P w' = .ok r w') ∧ VR M cx.w0 cx.Ro (if y.agg then .agg (lvs b q i k (((xs.getD i []).drop k).take y.size)) else lv b q i k ((xs.getD i []).getD k .undef)) r := by
  cases hv with
  | @ptr _ _ _ _ _ n A hM =>
    have F := R.flat _ _ _ _ _ h
    have hx := getD_of_lt hi
    have hlen := F.lens _ _ hx
    have pos := (G.ok t y hy).pos
    have hsp := (F.there A n hM).1
    simp only [Instr.loadAt, Instr.sureAddr, Sem.run_bind, Sem.run_pure, Result.andThen_ok]
    have hblk : A.block < w.heap.size := by obtain ⟨c, e, f, hh, _⟩ := (F.there A n hM).2.1; exact (Array.getElem?_eq_some_iff.1 hh).1
    have stay : ∀ w', Ks st.B M w w' → ∀ j, j < y.size → w'.cell? ⟨A.block, A.off + i * sz + k + j, none⟩ = w.cell? ⟨A.block, A.off + i * sz + k + j, none⟩ := fun w' hs j hj => by
      rw [Nat.add_assoc]
      exact hs.cell _ _ hblk (R.spared h hM hi (by omega))
    have cells : ∀ j, j < y.size → ∃ u, w.cell? ⟨A.block, A.off + i * sz + k + j, none⟩ = some u ∧ CR M cx.w0 cx.Ro top b q i (k + j) ((xs.getD i []).getD (k + j) .undef) u := by
      intro j hj
      have hc : cellAt xs i (k + j) = some ((xs.getD i []).getD (k + j) .undef) := by
        rw [cellAt_of hx, List.getD_eq_getElem?_getD (l := xs.getD i []), List.getElem?_eq_getElem (by omega)]; rfl
      obtain ⟨u, h1, _, h3⟩ := F.cell A n hM i (k + j) _ hc
      exact ⟨u, by rw [Nat.add_assoc]; exact h1, h3⟩
    cases hagg : y.agg with
    | true =>
      obtain ⟨us, hl, hu⟩ := choose_list y.size _ cells
      refine ⟨_, fun w' hs => run_loadVar_agg y t hy hagg _ us hl (fun j u hj => by rw [add_plain, stay w' hs j (by have := (List.getElem?_eq_some_iff.1 hj).1; omega)]; exact (hu j u hj).1), ?_⟩
      simp only [if_true]
      refine .agg (by rw [lvs_length, List.length_take, List.length_drop, hlen, List.size_toArray, hl]; omega) (fun j v u hv hu' => ?_)
      rw [lvs_get] at hv
      have hu2 : us[j]? = some u := by simpa using hu'
      have hjl : j < y.size := by have := (List.getElem?_eq_some_iff.1 hu2).1; omega
      have := (hu j u hu2).2
      simp only [Option.map_eq_some_iff] at hv
      obtain ⟨x, hx1, rfl⟩ := hv
      rw [List.getElem?_take, if_pos hjl, List.getElem?_drop] at hx1
      have e : (xs.getD i []).getD (k + j) .undef = x := by simp only [List.getD_eq_getElem?_getD (l := xs.getD i []), hx1, Option.getD_some]
      rw [e] at this
      exact this.vr
    | false =>
      have h1 := ((G.ok t y hy).flat hagg).1
      obtain ⟨u, hu, hc⟩ := cells 0 (by omega)
      simp only [Nat.add_zero] at hu hc
      exact ⟨u, fun w' hs => run_loadVar_one y t hy hagg _ u (by have := stay w' hs 0 (by omega); rw [Nat.add_zero] at this; rw [this]; exact hu), by simp only [Bool.false_eq_true, if_false]; exact hc.vr⟩
theorem load_pro (R : Rel cx M st a w) (y : Ty) (t : Nat) (hy : G.tt t = some y) {cs : List V} {u : Value} (hv : VR M cx.w0 cx.Ro (.pro cs) u) (hk : y.size ≤ cs.length) :
    ∃ r, (∀ w', Ks st.B M w w' → (Instr.loadAt t u).run G.P w' = .ok r w') ∧ VR M cx.w0 cx.Ro (if y.agg then .agg ((cs.take y.size).map ro) else ro (cs.getD 0 .undef)) r := by
  cases hv with
  | @pro _ A hsp hro hcs =>
    have pos := (G.ok t y hy).pos
    simp only [Instr.loadAt, Instr.sureAddr, Sem.run_bind, Sem.run_pure, Result.andThen_ok]
    have stay : ∀ w', Ks st.B M w w' → ∀ o, w'.cell? ⟨A.block, o, none⟩ = w.cell? ⟨A.block, o, none⟩ := fun w' hs o => hs.cell _ _ (Nat.lt_of_lt_of_le (cx.ro _ hro) R.keep.size) (R.roSpared hro)
    have cells : ∀ j, j < y.size → ∃ u, w.cell? ⟨A.block, A.off + j, none⟩ = some u ∧ Rd cx.w0 cx.Ro (cs.getD j .undef) u := by
      intro j hj
      obtain ⟨u, h1, h2⟩ := hcs j (cs.getD j .undef) (by simp [List.getD_eq_getElem?_getD, List.getElem?_eq_getElem (show j < cs.length by omega)])
      exact ⟨u, by rw [R.roCell hro]; exact h1, h2⟩
    cases hagg : y.agg with
    | true =>
      obtain ⟨us, hl, hu⟩ := choose_list y.size _ cells
      refine ⟨_, fun w' hs => run_loadVar_agg y t hy hagg _ us hl (fun j u hj => by rw [add_of_spot hsp, stay w' hs]; exact (hu j u hj).1), ?_⟩
      simp only [if_true]
      refine .agg (by simp [hl]; omega) (fun j v u hv hu' => ?_)
      have hu2 : us[j]? = some u := by simpa using hu'
      have hjl : j < y.size := by have := (List.getElem?_eq_some_iff.1 hu2).1; omega
      have := (hu j u hu2).2
      simp only [List.getElem?_map, Option.map_eq_some_iff] at hv
      obtain ⟨x, hx1, rfl⟩ := hv
      rw [List.getElem?_take, if_pos hjl] at hx1
      have e : cs.getD j .undef = x := by simp only [List.getD_eq_getElem?_getD, hx1, Option.getD_some]
      rw [e] at this
      exact this.vr
    | false =>
      have h1 := ((G.ok t y hy).flat hagg).1
      obtain ⟨u, hu, hc⟩ := cells 0 (by omega)
      simp only [Nat.add_zero] at hu hc
      exact ⟨u, fun w' hs => run_loadVar_one y t hy hagg _ u (by rw [eta_of_spot hsp, stay w' hs]; exact hu), by simp only [Bool.false_eq_true, if_false]; exact hc.vr⟩
end Go.Proofs.Ytniibpihbopehaa.M

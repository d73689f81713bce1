/- What makes boxes: a variable, a literal's row, 'make', a text's bytes. -/
import Derived.Test.YtniibpihbopehaaN7
namespace Go.Proofs.Ytniibpihbopehaa.M
open Go Go.RowKit
set_option linter.unusedVariables false
set_option linter.unusedSimpArgs false
variable {cx : Cx} {M M' : Mp} {st : St} {a : Act} {w w' : World} {G : Pg} {p : Nat → Path → Bool}
theorem cellAt_rep {n s i k : Nat} {v x : V} (h : cellAt (List.replicate n (List.replicate s x)) i k = some v) : v = x ∧ i < n ∧ k < s := by
  unfold cellAt at h
  rw [List.getElem?_replicate] at h
  by_cases hi : i < n
  · rw [if_pos hi] at h
    simp only [Option.bind_some, List.getElem?_replicate] at h
    by_cases hk : k < s
    · rw [if_pos hk] at h; cases h; exact ⟨rfl, hi, hk⟩
    · rw [if_neg hk] at h; cases h
  · rw [if_neg hi] at h; cases h
theorem killL_rep (p : Nat → Path → Bool) (n : Nat) : killL p (List.replicate n .undef) = List.replicate n .undef := by
  induction n with
  | zero => rw [List.replicate_zero, killL]
  | succ n ih => rw [List.replicate_succ, killL, ih, kill]
theorem killRow_rep (p : Nat → Path → Bool) (top : Bool) (n s : Nat) : killRow p top (List.replicate n (List.replicate s .undef)) = List.replicate n (List.replicate s .undef) := by
  unfold killRow; split
  · rw [List.map_replicate, killL_rep]
  · rfl
/-- A state with a new box in it. -/
def addBox (st : St) (d : Nat) (top : Bool) (sz : Nat) (xs : Row) : St := { T := fun t => kill (boxIs d) (st.T t), B := upd (killB (boxIs d) st.B) d (some (top, sz, xs)) }
theorem rows_new (st : St) (d : Nat) (top : Bool) (sz : Nat) (xs : Row) : rowsAt (addBox st d top sz xs).B d [] = some (top, sz, xs) := by
  unfold addBox; rw [rowsAt_box (upd_same _ _ _)]; simp [sub]
/-- A box is made around cells whose words come behind. -/
theorem Rel.allocRaw (R : Rel cx M st a w) (d : Nat) (h5 : 500 ≤ d) (us : Array Value) (e : TypeId) (top : Bool) (sz n : Nat) (hsz : n * sz ≤ us.size) (hone : ∀ u ∈ us.toList, u.oneCell' = true) :
    ∃ M', Rel cx M' (addBox st d top sz (List.replicate n (List.replicate sz .undef))) a (w.alloc (.cells us e)) ∧ M' d [] = some (⟨w.heap.size, 0, none⟩, us.size) ∧ (∀ b q, boxIs d b q = false → M' b q = M b q) := by
  have := R.alloc d h5 us e top sz (List.replicate n (List.replicate sz .undef)) (by simpa using hsz) (by
    intro i x hx
    rw [List.getElem?_replicate] at hx
    split at hx
    · cases hx; simp
    · cases hx) (by
    intro i k v hv
    obtain ⟨rfl, hi, hk⟩ := cellAt_rep hv
    have hlt : i * sz + k < us.size := by
      have : (i + 1) * sz ≤ n * sz := Nat.mul_le_mul_right _ hi
      rw [Nat.add_mul] at this
      omega
    exact ⟨us[i * sz + k], Array.getElem?_eq_getElem hlt, hone _ (by simp), trivial⟩)
  rw [killRow_rep] at this
  refine ⟨_, this, by simp, fun b q h => ?_⟩
  have : b ≠ d := by simpa [boxIs] using h
  simp [this]
def boxw (tt : Nat → Option Ty) (st : St) (d t : Nat) (v : V) (K : St → V → Prop) : Prop :=
  match tt t with
  | some y => chk (decide ((cellsV v).length = y.size)) (chk ((cellsV v).all oneV) (stv d [] 0 y.zero (addBox st d true y.size [List.replicate y.size .undef]) 0 (killL (boxIs d) (cellsV v)) fun st' => K st' (.ptr d [] y.size 0 0)))
  | none => False
theorem boxw_sound (R : Rel cx M st a w) {d t : Nat} {v : V} {u : Value} {K : St → V → Prop} (h5 : 500 ≤ d) (h : boxw G.tt st d t v K) (hv : VR M cx.w0 cx.Ro v u) :
    ∃ r M' st' x, (Instr.box t u).run G.P w = .ok r (w.alloc (.cells u.cells t)) ∧ K st' x ∧ Rel cx M' st' a (w.alloc (.cells u.cells t)) ∧ VR M' cx.w0 cx.Ro x r := by
  unfold boxw at h
  simp only [chk_iff, decide_eq_true_eq] at h
  split at h
  · rename_i y hy
    obtain ⟨h1, h2, h3⟩ := h
    have hcs := cellsV_ok hv h2
    have hone : ∀ x ∈ u.cells.toList, x.oneCell' = true := by
      intro x hx
      obtain ⟨k, hk⟩ := List.getElem?_of_mem hx
      have hlt : k < (cellsV v).length := by have := (List.getElem?_eq_some_iff.1 hk).1; rw [Array.length_toList, hcs.1] at this; exact this
      have hv' := List.getElem?_eq_getElem hlt
      exact ((hcs.2 k _ x hv' (by simpa using hk)).one (List.all_eq_true.1 h2 _ (List.getElem_mem hlt))).2
    obtain ⟨M1, R1, hM1, hk1⟩ := R.allocRaw d h5 u.cells t true y.size 1 (by rw [hcs.1, h1]; omega) hone
    have hs : ∀ t s xs, rowsAt (addBox st d true y.size [List.replicate y.size .undef]).B d [] = some (t, s, xs) → s = y.size := by
      intro t s xs hr; rw [rows_new] at hr; cases hr; rfl
    obtain ⟨w', M', st', run, hK, R', hA, _, hid⟩ := stv_sound (K := fun st' => K st' (.ptr d [] y.size 0 0)) (sz := y.size) G.P y.zero _ M1 _ 0 0 (killL (boxIs d) (cellsV v)) u.cells.toList R1 h3 hs hM1
      (VRs.struck ⟨by rw [Array.length_toList]; exact hcs.1, fun l v u hv hu => hcs.2 l v u hv (by simpa using hu)⟩ hk1)
    have e := hid (fun l x hl => by
      simp only [Nat.zero_mul, Nat.add_zero, Nat.zero_add]
      rw [World.cell?_alloc_new]; simpa using hl)
    subst e
    exact ⟨.pointer (some ⟨w.heap.size, 0, none⟩), M', st', _, rfl, hK, R', by have := VR.ptr (w := cx.w0) (Ro := cx.Ro) (sz := y.size) (i := 0) (k := 0) hA; simpa using this⟩
  · exact h.elim
/-- A variable at its zero. -/
theorem alloc_sound (R : Rel cx M st a w) (d t : Nat) (h5 : 500 ≤ d) (y : Ty) (hy : G.tt t = some y) :
    ∃ r M' us, (Instr.alloc t true (.tuple #[])).run G.P w = .ok r (w.alloc (.cells us t)) ∧ Rel cx M' (addBox st d true y.size [y.zero]) a (w.alloc (.cells us t)) ∧ VR M' cx.w0 cx.Ro (.ptr d [] y.size 0 0) r := by
  obtain ⟨i, z, hi, hs, hb, hz, hzs, hzl, hzr, _⟩ := (G.ok t y hy).info
  have hzv : (zeroValue t).run G.P w = .ok z w := by simp [zeroValue, typeInfo, hi, hz]
  have zk : ∀ (k : Nat) (v : V), y.zero[k]? = some v → ∃ u, z.cells[k]? = some u ∧ ZR v u := by
    intro k v hv
    have hlt : k < z.cells.size := by have := (List.getElem?_eq_some_iff.1 hv).1; omega
    exact ⟨_, Array.getElem?_eq_getElem hlt, hzr k v _ hv (Array.getElem?_eq_getElem hlt)⟩
  have kz : killRow (boxIs d) true [y.zero] = [y.zero] := by
    unfold killRow
    rw [if_pos rfl, List.map_cons, List.map_nil]
    congr 1
    apply List.ext_getElem?
    intro k
    rw [killL_get]
    cases hv : y.zero[k]? with
    | none => rfl
    | some v =>
      obtain ⟨u, _, hu⟩ := zk k v hv
      cases v <;> simp only [ZR] at hu <;> simp only [Option.map_some] <;> rw [kill]
  have A := R.alloc d h5 z.cells t true y.size [y.zero] (by simp; omega) (by intro i x hx; cases i with | zero => simp at hx; rw [← hx, hzl] | succ i => simp at hx) (by
    intro i k v hv
    cases i with
    | zero =>
      simp only [cellAt, List.getElem?_cons_zero, Option.bind_some] at hv
      obtain ⟨u, h1, h2⟩ := zk k v hv
      refine ⟨u, by simpa using h1, ?_⟩
      cases v <;> simp only [ZR] at h2
      case lit x => exact ⟨h2.1 ▸ h2.2, h2.1⟩
      case own s xs => cases xs with
        | nil => simp only [ZR] at h2; subst h2; exact ⟨rfl, rfl⟩
        | cons => simp only [ZR] at h2
    | succ i => simp [cellAt] at hv)
  rw [kz] at A
  refine ⟨.pointer (some ⟨w.heap.size, 0, none⟩), _, z.cells, ?_, A, ?_⟩
  · simp [Instr.alloc, hzv, newVar, newRow]
  · have := VR.ptr (M := fun b q => if b = d then (if q = [] then some ((⟨w.heap.size, 0, none⟩ : Addr), z.cells.size) else none) else M b q) (w := cx.w0) (Ro := cx.Ro) (b := d) (q := []) (sz := y.size) (i := 0) (k := 0) (n := z.cells.size) (A := ⟨w.heap.size, 0, none⟩) (by simp)
    simpa using this
/-- 'make([]T, n)'. -/
theorem make_sound (R : Rel cx M st a w) (d t e : Nat) (h5 : 500 ≤ d) (y y' : Ty) (hy : G.tt t = some y) (he : y.sl = some e) (hy' : G.tt e = some y') (k1 k2 : IntKind) (n : Int) (h0 : 0 ≤ n) (hn : y'.bytes * n ≤ 281474976710656) (hn2 : n ≤ 140737488351232) :
    ∃ r M' us, (Instr.makeSlice t (.int k1 n) (.int k2 n)).run G.P w = .ok r (w.alloc (.cells us e)) ∧ Rel cx M' (addBox st d false y'.size (List.replicate n.toNat y'.zero)) a (w.alloc (.cells us e)) ∧ VR M' cx.w0 cx.Ro (.sl d [] y'.size 0 n.toNat) r := by
  obtain ⟨i, z, hi, hs, hb, hz, hzs, hzl, hzr, _⟩ := (G.ok e y' hy').info
  have hu := (G.ok t y hy).sl e he
  have pos := (G.ok e y' hy').pos
  have run := run_make (P := G.P) w t e i z hu hi hz k1 k2 n n h0 (Int.le_refl _) (by rw [hb]; exact hn) (by omega)
  have hus : (madeCells z.cells (n.toNat * i.size)).size = n.toNat * y'.size := by rw [size_madeCells, hs]
  have A := R.alloc d h5 (madeCells z.cells (n.toNat * i.size)) e false y'.size (List.replicate n.toNat y'.zero) (by rw [hus]; simp) (by
    intro j x hx
    rw [List.getElem?_replicate] at hx
    split at hx
    · cases hx; exact hzl
    · cases hx) (by
    intro j k v hv
    unfold cellAt at hv
    rw [List.getElem?_replicate] at hv
    by_cases hj : j < n.toNat
    · rw [if_pos hj] at hv
      simp only [Option.bind_some] at hv
      have hk : k < y'.size := by have := (List.getElem?_eq_some_iff.1 hv).1; omega
      have hlt : j * y'.size + k < n.toNat * i.size := by
        have : (j + 1) * y'.size ≤ n.toNat * y'.size := Nat.mul_le_mul_right _ hj
        rw [Nat.add_mul] at this
        rw [hs]; omega
      have hkz : k < z.cells.size := by omega
      have hzk := hzr k v _ hv (Array.getElem?_eq_getElem hkz)
      refine ⟨z.cells[k], ?_, ?_⟩
      · have e1 : (j * y'.size + k) % z.cells.size = k := by rw [hzs, hzl, Nat.mul_comm, Nat.mul_add_mod]; exact Nat.mod_eq_of_lt hk
        unfold madeCells
        rw [Array.getElem?_map, Array.getElem?_range]
        rw [if_pos hlt, Option.map_some, e1]
        simp [hkz]
      · cases v <;> simp only [ZR] at hzk
        case lit x => exact ⟨hzk.2, hzk.1⟩
        case own s xs => cases xs with
          | nil => simp only [ZR] at hzk; rw [hzk]; exact ⟨rfl, rfl⟩
          | cons => simp only [ZR] at hzk
    · rw [if_neg hj] at hv; cases hv)
  have kz : killRow (boxIs d) false (List.replicate n.toNat y'.zero) = List.replicate n.toNat y'.zero := rfl
  rw [kz] at A
  refine ⟨_, _, _, run, A, .sl ⟨Nat.le_refl _, by omega⟩ (fun hc => ⟨_, _, by simp; exact ⟨rfl, rfl⟩, by simp, ?_⟩)⟩
  rw [hus]; simp
end Go.Proofs.Ytniibpihbopehaa.M

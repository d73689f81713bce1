/- A literal's row; a text's bytes; 'append' as one word. -/
import Derived.Test.YtniibpihbopehaaO1
namespace Go.Proofs.Ytniibpihbopehaa.M
open Go Go.RowKit
set_option linter.unusedVariables false
set_option linter.unusedSimpArgs false
variable {cx : Cx} {M M' : Mp} {st : St} {a : Act} {w w' : World} {G : Pg} {p : Nat → Path → Bool}
theorem fill_rows (size : Nat) : ∀ (parts : List (Nat × Value)) (lo : Nat) (cells : Array Value), (∀ p ∈ parts, p.2.cells.size = size ∧ (p.1 + 1) * size ≤ cells.size ∧ lo ≤ p.1) → parts.Pairwise (fun a b => a.1 < b.1) →
    ∃ out, Instr.fill (fun i => some (i * size, size)) cells parts = some out ∧ out.size = cells.size ∧ (∀ p ∈ parts, ∀ l x, p.2.cells[l]? = some x → out[p.1 * size + l]? = some x) ∧ ∀ j, j < lo * size → out[j]? = cells[j]? := by
  intro parts
  induction parts with
  | nil => intro lo cells h1 h2; exact ⟨cells, rfl, rfl, by simp, fun _ _ => rfl⟩
  | cons p parts ih =>
    intro lo cells h1 h2
    obtain ⟨i, v⟩ := p
    obtain ⟨hs, hfit, hlo⟩ := h1 (i, v) (by simp)
    simp only at hs hfit hlo
    obtain ⟨g1, g2⟩ := foldl_cells (i * size) v.cells cells
    have hfit' : i * size + size ≤ cells.size := by rw [Nat.add_mul] at hfit; omega
    obtain ⟨out, r1, r2, r3, r4⟩ := ih (i + 1) (v.cells.zipIdx.foldl (fun cs (p : Value × Nat) => cs.setIfInBounds (i * size + p.2) p.1) cells) (fun q hq => by
      obtain ⟨a1, a2, a3⟩ := h1 q (by simp [hq])
      have := (List.pairwise_cons.1 h2).1 q hq
      simp only at this
      exact ⟨a1, by rw [g1]; exact a2, by omega⟩) (List.pairwise_cons.1 h2).2
    refine ⟨out, ?_, by rw [r2, g1], ?_, ?_⟩
    · simp only [Instr.fill]
      rw [if_neg (by rw [hs]; simp; omega)]
      exact r1
    · intro q hq l x hx
      rcases List.mem_cons.1 hq with rfl | hq
      · simp only at hx ⊢
        have hl : l < v.cells.size := (Array.getElem?_eq_some_iff.1 hx).1
        rw [r4 _ (by rw [Nat.add_mul]; omega), g2, if_pos (by omega), Nat.add_sub_cancel_left]
        exact hx
      · exact r3 q hq l x hx
    · intro j hj
      have hle : lo * size ≤ i * size := Nat.mul_le_mul_right _ hlo
      rw [r4 j (by rw [Nat.add_mul]; omega), g2, if_neg (by omega)]
def partsOk (T : Nat → V) (n : Nat) : Nat → List (Nat × Operand) → Prop
  | _, [] => True
  | i, (j, x) :: r => chk (decide (j = i)) (chk (decide ((cellsV (ev T x)).length = n)) (chk ((cellsV (ev T x)).all oneV) (partsOk T n (i + 1) r)))
def fillw (y : Ty) (d : Nat) : Nat → List (Nat × Operand) → St → (St → Prop) → Prop
  | _, [], st, K => K st
  | i, (j, x) :: r, st, K => chk ((cellsV (ev st.T x)).all oneV) (stv d [] i y.zero st 0 (cellsV (ev st.T x)) fun st' => fillw y d (i + 1) r st' K)
/-- A plain value, and no slice that is none. -/
def litC : Value → Bool
  | .slice none 0 0 => false
  | x => x.oneCell'
theorem litC_one {x : Value} (h : litC x = true) : x.oneCell' = true := by
  unfold litC at h
  split at h
  · cases h
  · exact h
/-- Parts that are plain values. -/
def litCells : List V → Bool
  | [] => true
  | .lit x :: r => match litC x with
    | true => litCells r
    | false => false
  | _ :: _ => false
def litParts (T : Nat → V) : List (Nat × Operand) → Bool
  | [] => true
  | p :: r => match litCells (cellsV (ev T p.2)) with
    | true => litParts T r
    | false => false
def partRows (T : Nat → V) : List (Nat × Operand) → Row
  | [] => []
  | p :: r => cellsV (ev T p.2) :: partRows T r
theorem litCells_ok : ∀ {l : List V}, litCells l = true → ∀ v ∈ l, ∃ x, v = .lit x ∧ x.oneCell' = true := by
  intro l
  induction l with
  | nil => intro _ v hv; simp at hv
  | cons c r ih =>
    intro h v hv
    cases c with
    | lit x =>
      simp only [litCells] at h
      split at h
      · rename_i hx
        rcases List.mem_cons.1 hv with rfl | hv
        · exact ⟨x, rfl, litC_one hx⟩
        · exact ih h v hv
      · cases h
    | _ => cases h
theorem litParts_ok {T : Nat → V} : ∀ {l : List (Nat × Operand)}, litParts T l = true → ∀ p ∈ l, litCells (cellsV (ev T p.2)) = true := by
  intro l
  induction l with
  | nil => intro _ p hp; simp at hp
  | cons c r ih =>
    intro h p hp
    simp only [litParts] at h
    split at h
    · rename_i hx
      rcases List.mem_cons.1 hp with rfl | hp
      · exact hx
      · exact ih h p hp
    · cases h
theorem partRows_eq (T : Nat → V) (l : List (Nat × Operand)) : partRows T l = l.map fun p => cellsV (ev T p.2) := by
  induction l with
  | nil => rfl
  | cons c r ih => simp [partRows, ih]
def force (v : V) (K : V → Prop) : Prop := match v with
  | .lit x => K (.lit x)
  | .imm s xs => K (.imm s xs)
  | .own s xs => K (.own s xs)
  | .pro cs => K (.pro cs)
  | .sl b q s o l => K (.sl b q s o l)
  | .ptr b q s i k => K (.ptr b q s i k)
  | .agg cs => K (.agg cs)
  | .tup vs => K (.tup vs)
  | .fn f cs => K (.fn f cs)
  | .undef => K .undef
theorem force_eq (v : V) (K : V → Prop) : force v K = K v := by cases v <;> rfl
/-- A row's cells, reckoned out. -/
def forceC : List V → (List V → Prop) → Prop
  | [], K => K []
  | v :: r, K => force v fun v' => forceC r fun r' => K (v' :: r')
theorem forceC_eq : ∀ (l : List V) (K : List V → Prop), forceC l K = K l := by
  intro l
  induction l with
  | nil => intro K; rfl
  | cons v r ih => intro K; rw [forceC, force_eq, ih]
def forceW : Row → (Row → Prop) → Prop
  | [], K => K []
  | x :: r, K => forceC x fun x' => forceW r fun r' => K (x' :: r')
theorem forceW_eq : ∀ (l : Row) (K : Row → Prop), forceW l K = K l := by
  intro l
  induction l with
  | nil => intro K; rfl
  | cons v r ih => intro K; rw [forceW, forceC_eq, ih]
def cacheB (st : St) (b : Nat) (K : St → Prop) : Prop := match st.B b with
  | some (t, s, xs) => forceW xs fun xs' => K { T := st.T, B := upd st.B b (some (t, s, xs')) }
  | none => K st
theorem cacheB_eq (st : St) (b : Nat) (K : St → Prop) : cacheB st b K = K st := by
  unfold cacheB
  split
  · rename_i t s xs h
    rw [forceW_eq]
    congr 1
    obtain ⟨T, B⟩ := st
    simp only [St.mk.injEq, true_and]
    funext b'
    unfold upd
    split
    · rename_i e; subst e; exact h.symm
    · rfl
  · rfl
/-- A literal's row. -/
def bslw (tt : Nat → Option Ty) (st : St) (d t len : Nat) (parts : List (Nat × Operand)) (K : St → V → Prop) : Prop :=
  match tt t with
  | none => False
  | some y => match y.sl with
    | none => False
    | some e => match tt e with
      | none => False
      | some y' => chk (decide (parts.length = len)) (chk (decide (len * y'.size ≤ 16777216)) (partsOk st.T y'.size 0 parts ∧ (match litParts st.T parts with
          | true => K (addBox st d false y'.size (partRows st.T parts)) (.sl d [] y'.size 0 len)
          | false => fillw y' d 0 parts (addBox st d false y'.size (List.replicate len (List.replicate y'.size .undef))) fun st' => cacheB st' d fun st' => K st' (.sl d [] y'.size 0 len))))
theorem partsOk_mem {T : Nat → V} {n : Nat} : ∀ (parts : List (Nat × Operand)) (i : Nat), partsOk T n i parts → (∀ p ∈ parts, i ≤ p.1 ∧ p.1 < i + parts.length ∧ (cellsV (ev T p.2)).length = n ∧ (cellsV (ev T p.2)).all oneV = true) ∧ parts.Pairwise (fun a b => a.1 < b.1) := by
  intro parts
  induction parts with
  | nil => intro i h; exact ⟨by simp, .nil⟩
  | cons p parts ih =>
    intro i h
    obtain ⟨j, x⟩ := p
    simp only [partsOk, chk_iff, decide_eq_true_eq] at h
    obtain ⟨rfl, h1, h2, h3⟩ := h
    obtain ⟨g1, g2⟩ := ih _ h3
    refine ⟨fun q hq => ?_, List.pairwise_cons.2 ⟨fun q hq => ?_, g2⟩⟩
    · rcases List.mem_cons.1 hq with rfl | hq
      · exact ⟨Nat.le_refl _, by simp, h1, h2⟩
      · obtain ⟨a1, a2, a3⟩ := g1 q hq
        exact ⟨by omega, by simp; omega, a3⟩
    · have := (g1 q hq).1
      simp only; omega
theorem fillw_run (y : Ty) (d : Nat) {A : Addr} {n : Nat} {K : St → Prop} (P : Program) : ∀ (parts : List (Nat × Operand)) (i : Nat) (st : St) (M : Mp), Rel cx M st a w → fillw y d i parts st K → (∀ t s xs, rowsAt st.B d [] = some (t, s, xs) → s = y.size) → M d [] = some (A, n) →
    (∀ (l : Nat) (p : Nat × Operand), parts[l]? = some p → ∀ (j : Nat) (x : Value), (a.eval p.2).cells[j]? = some x → w.cell? ⟨A.block, A.off + (i + l) * y.size + j, none⟩ = some x) →
      ∃ M' st', K st' ∧ Rel cx M' st' a w ∧ M' d [] = some (A, n) := by
  intro parts
  induction parts with
  | nil => intro i st M R h hs hA hc; exact ⟨M, st, h, R, hA⟩
  | cons p parts ih =>
    intro i st M R h hs hA hc
    obtain ⟨j, x⟩ := p
    simp only [fillw, chk_iff] at h
    obtain ⟨h1, h2⟩ := h
    have hcs := cellsV_ok (R.ev_ x) h1
    obtain ⟨w', M', st', run, hK, R', hA', hs', hid⟩ := stv_sound (sz := y.size) (A := A) (n := n) P y.zero st M w 0 0 (cellsV (ev st.T x)) (a.eval x).cells.toList R h2 hs hA ⟨by rw [Array.length_toList]; exact hcs.1, fun l v u hv hu => hcs.2 l v u hv (by simpa using hu)⟩
    have e := hid (fun l u hl => by
      have := hc 0 (j, x) rfl l u (by simpa using hl)
      simpa using this)
    subst e
    exact ih (i + 1) st' M' R' hK hs' hA' (fun l p hp j x hx => by
      have := hc (l + 1) p (by simpa using hp) j x hx
      rw [show i + 1 + l = i + (l + 1) by omega]; exact this)
theorem spare_alloc {d : Nat} {n m : Nat} {top : Bool} {sz : Nat} {xs : Row} {T : Nat → V} {k o : Nat} (hk : k < n) (h : Spare { T := T, B := upd (killB (boxIs d) st.B) d (some (top, sz, xs)) : St }.B (fun b q => if b = d then (if q = [] then some (⟨n, 0, none⟩, m) else none) else M b q) k o) : Spare st.B M k o := by
  obtain ⟨b, q, s, ys, A, n', h1, h2, h3, h4⟩ := h
  by_cases hb : b = d
  · subst hb
    simp only [if_true] at h2
    split at h2
    · simp only [Option.some.injEq, Prod.mk.injEq] at h2
      obtain ⟨rfl, _⟩ := h2
      simp only at h3
      omega
    · cases h2
  · simp only [if_neg hb] at h2
    rw [rowsAt_upd _ _ hb, rowsAt_killB] at h1
    obtain ⟨⟨t', s', zs⟩, g1, g2⟩ := Option.map_eq_some_iff.1 h1
    simp only [Prod.mk.injEq] at g2
    obtain ⟨rfl, rfl, rfl⟩ := g2
    rw [killRow_length] at h4
    exact ⟨b, q, _, zs, A, n', g1, h2, h3, h4⟩
theorem bslw_sound (R : Rel cx M st a w) {d t len : Nat} {parts : Array (Nat × Operand)} {K : St → V → Prop} (h5 : 500 ≤ d) (h : bslw G.tt st d t len parts.toList K) :
    ∃ r w1 M' st' x, (Instr.buildSlice t len (parts.map fun (i, x) => (i, a.eval x))).run G.P w = .ok r w1 ∧ K st' x ∧ Rel cx M' st' a w1 ∧ VR M' cx.w0 cx.Ro x r ∧ Sm w w1 ∧ (litParts st.T parts.toList = true → ∀ k o, k < w.heap.size → Spare st'.B M' k o → Spare st.B M k o) := by
  unfold bslw at h
  simp only [chk_iff, decide_eq_true_eq] at h
  cases hy : G.tt t with
  | none => rw [hy] at h; exact h.elim
  | some y =>
    rw [hy] at h
    simp only at h
    cases hsl : y.sl with
    | none => rw [hsl] at h; exact h.elim
    | some e =>
      rw [hsl] at h
      simp only at h
      cases hy' : G.tt e with
      | none => rw [hy'] at h; exact h.elim
      | some y' =>
        rw [hy'] at h
        simp only at h
        obtain ⟨h1, h2, h3, h4⟩ := h
        simp only [cacheB_eq] at h4
        have hu := (G.ok t y hy).sl e hsl
        obtain ⟨i, z, hi, hs, hby, hz, hzs, hzl, hzr, _⟩ := (G.ok e y' hy').info
        have pos := (G.ok e y' hy').pos
        obtain ⟨p1, p2⟩ := partsOk_mem _ _ h3
        have hzv : (zeroValue e).run G.P w = .ok z w := by simp [zeroValue, typeInfo, hi, hz]
        have hcells : ∀ p ∈ parts.toList, (a.eval p.2).cells.size = y'.size ∧ ∀ x ∈ (a.eval p.2).cells.toList, x.oneCell' = true := by
          intro p hp
          obtain ⟨_, _, g1, g2⟩ := p1 p hp
          have hcs := cellsV_ok (R.ev_ p.2) g2
          refine ⟨by rw [hcs.1, g1], fun x hx => ?_⟩
          obtain ⟨k, hk⟩ := List.getElem?_of_mem hx
          have hlt : k < (cellsV (ev st.T p.2)).length := by have := (List.getElem?_eq_some_iff.1 hk).1; rw [Array.length_toList, hcs.1] at this; exact this
          have hv' := List.getElem?_eq_getElem hlt
          exact ((hcs.2 k _ x hv' (by simpa using hk)).one (List.all_eq_true.1 g2 _ (List.getElem_mem hlt))).2
        obtain ⟨out, f1, f2, f3, _⟩ := fill_rows y'.size (parts.toList.map fun p => (p.1, a.eval p.2)) 0 ((Array.range (len * y'.size)).map (z.cells[· % z.cells.size]!)) (fun q hq => by
            obtain ⟨p, hp, rfl⟩ := List.mem_map.1 hq
            obtain ⟨g1, g2, _⟩ := p1 p hp
            refine ⟨(hcells p hp).1, ?_, Nat.zero_le _⟩
            simp only [Array.size_map, Array.size_range]
            exact Nat.mul_le_mul_right _ (by omega)) (by
            rw [List.pairwise_map]; exact p2)
        have hsz : out.size = len * y'.size := by rw [f2]; simp
        have part : ∀ l, l < len → ∃ p ∈ parts.toList, p.1 = l ∧ parts.toList[l]? = some p := by
          have key : ∀ (ps : List (Nat × Operand)) (i l : Nat), partsOk st.T y'.size i ps → l < ps.length → ∃ p ∈ ps, p.1 = i + l ∧ ps[l]? = some p := by
            intro ps
            induction ps with
            | nil => intro i l _ hl; simp at hl
            | cons q ps ih =>
              intro i l hp hl
              obtain ⟨j, x⟩ := q
              simp only [partsOk, chk_iff, decide_eq_true_eq] at hp
              obtain ⟨rfl, _, _, hp⟩ := hp
              cases l with
              | zero => exact ⟨_, by simp, rfl, rfl⟩
              | succ l =>
                obtain ⟨p, q1, q2, q3⟩ := ih (j + 1) l hp (by simpa using hl)
                exact ⟨p, by simp [q1], by omega, by simpa using q3⟩
          intro l hl
          have := key parts.toList 0 l h3 (by omega)
          simpa using this
        have hone : ∀ u ∈ out.toList, u.oneCell' = true := by
          intro u hu
          obtain ⟨j, hj⟩ := List.getElem?_of_mem hu
          have hlt : j < len * y'.size := by have := (List.getElem?_eq_some_iff.1 hj).1; rw [Array.length_toList, hsz] at this; exact this
          have hl : j / y'.size < len := Nat.div_lt_of_lt_mul (by rw [Nat.mul_comm]; exact hlt)
          obtain ⟨p, hp, e1, _⟩ := part _ hl
          have hk : j % y'.size < (a.eval p.2).cells.size := by rw [(hcells p hp).1]; exact Nat.mod_lt _ pos
          have := f3 (p.1, a.eval p.2) (List.mem_map.2 ⟨p, hp, rfl⟩) (j % y'.size) _ (Array.getElem?_eq_getElem hk)
          simp only [e1] at this
          rw [show j / y'.size * y'.size + j % y'.size = j by rw [Nat.mul_comm]; exact Nat.div_add_mod _ _] at this
          have hj' : out[j]? = some u := by simpa using hj
          rw [hj'] at this
          cases this
          exact (hcells p hp).2 _ (by simp)
        have hrun : (Instr.buildSlice t len (parts.map fun (i, x) => (i, a.eval x))).run G.P w = .ok (.slice (some ⟨w.heap.size, 0, none⟩) len len) (w.alloc (.cells out e)) := by
          have hfill : Instr.fill (fun i => some (i * y'.size, y'.size)) ((Array.range (len * y'.size)).map (z.cells[· % z.cells.size]!)) (Array.map (fun x : Nat × Operand => (x.1, a.eval x.2)) parts).toList = some out := by
            rw [← f1]; simp
          have h24 : ¬ len * y'.size > 2 ^ 24 := by omega
          by_cases hl0 : len * y'.size = 0
          · have hl : len = 0 := by
              rcases Nat.mul_eq_zero.1 hl0 with h | h
              · exact h
              · omega
            have hp : parts = #[] := by
              apply Array.eq_empty_of_size_eq_zero
              rw [← Array.length_toList]; omega
            subst hp
            have e1 : ((Array.range (len * y'.size)).map (z.cells[· % z.cells.size]!)) = #[] := by rw [hl0]; simp [Array.range_zero']
            rw [e1] at hfill
            simp only [Instr.buildSlice, Sem.run_bind, run_underlying hu, Result.andThen_ok, run_sizeOf' hi, hs]
            rw [if_neg h24]
            simp only [hl0, Sem.run_ite, if_true, Sem.run_pure, Sem.run_bind, Result.andThen_ok]
            simp [Instr.fill] at hfill
            subst hfill
            simp [Instr.fill, newRow, Array.range_zero']
          · simp only [Instr.buildSlice, Sem.run_bind, run_underlying hu, Result.andThen_ok, run_sizeOf' hi, hs]
            rw [if_neg h24]
            simp only [Sem.run_pure, Sem.run_ite, hl0, if_false, Sem.run_bind, hzv, Result.andThen_ok, hfill]
            rfl
        split at h4
        · rename_i hlit
          have hpl := litParts_ok hlit
          have R1 := R.alloc d h5 out e false y'.size (partRows st.T parts.toList) (by rw [hsz, partRows_eq, List.length_map, h1]; exact Nat.le_refl _) (fun i x hx => by
              rw [partRows_eq, List.getElem?_map] at hx
              obtain ⟨p, hp, rfl⟩ := Option.map_eq_some_iff.1 hx
              exact (p1 p (List.mem_of_getElem? hp)).2.2.1) (fun i k v hv => by
              unfold cellAt at hv
              rw [partRows_eq, List.getElem?_map] at hv
              cases hp : parts.toList[i]? with
              | none => rw [hp] at hv; cases hv
              | some p =>
                rw [hp] at hv
                simp only [Option.map_some, Option.bind_some] at hv
                have hm := List.mem_of_getElem? hp
                obtain ⟨x, rfl, hx⟩ := litCells_ok (hpl p hm) v (List.mem_of_getElem? hv)
                have hcs := cellsV_ok (R.ev_ p.2) (p1 p hm).2.2.2
                have hk : k < (a.eval p.2).cells.size := by rw [hcs.1]; exact (List.getElem?_eq_some_iff.1 hv).1
                obtain ⟨p', _, e1, e2⟩ := part i (by have := (List.getElem?_eq_some_iff.1 hp).1; omega)
                rw [hp] at e2
                cases e2
                have := f3 (p.1, a.eval p.2) (List.mem_map.2 ⟨p, hm, rfl⟩) k _ (Array.getElem?_eq_getElem hk)
                simp only [e1] at this
                refine ⟨_, this, ?_⟩
                have hr := hcs.2 k _ _ hv (Array.getElem?_eq_getElem hk)
                rw [hr.lit_]
                exact ⟨hx, rfl⟩)
          have ek : killRow (boxIs d) false (partRows st.T parts.toList) = partRows st.T parts.toList := by unfold killRow; simp
          rw [ek] at R1
          exact ⟨_, _, _, _, _, hrun, h4, R1, .sl ⟨Nat.le_refl _, Nat.le_trans (Nat.le_mul_of_pos_right len (G.ok e y' hy').pos) (by omega)⟩ (fun _ => ⟨_, _, by simp; exact ⟨rfl, rfl⟩, by simp, by simp [hsz]⟩), (Kp.refl _ w).alloc _, fun _ k o hk hs => spare_alloc hk hs⟩
        · rename_i hlit
          obtain ⟨M1, R1, hM1, hk1⟩ := R.allocRaw d h5 out e false y'.size len (by rw [hsz]; exact Nat.le_refl _) hone
          obtain ⟨M', st', hK, R', hA⟩ := fillw_run y' d (A := ⟨w.heap.size, 0, none⟩) (n := out.size) G.P parts.toList 0 _ M1 R1 h4 (fun t s xs hr => by rw [rows_new] at hr; cases hr; rfl) hM1 (fun l p hp j x hx => by
            obtain ⟨g1, g2⟩ := p1 p (List.mem_of_getElem? hp)
            obtain ⟨p', _, e1, e2⟩ := part l (by have := (List.getElem?_eq_some_iff.1 hp).1; omega)
            rw [hp] at e2
            cases e2
            simp only [Nat.zero_add]
            rw [World.cell?_alloc_new]
            have := f3 (p.1, a.eval p.2) (List.mem_map.2 ⟨p, List.mem_of_getElem? hp, rfl⟩) j x hx
            simp only [e1] at this
            exact this)
          exact ⟨_, _, M', st', _, hrun, hK, R', .sl ⟨Nat.le_refl _, Nat.le_trans (Nat.le_mul_of_pos_right len (G.ok e y' hy').pos) (by omega)⟩ (fun _ => ⟨_, _, hA, by simp, by simp [hsz]⟩), (Kp.refl _ w).alloc _, fun h => by rw [hlit] at h; cases h⟩
end Go.Proofs.Ytniibpihbopehaa.M

/- A text's bytes; 'append' as one word. -/
import Derived.Test.YtniibpihbopehaaO2
namespace Go.Proofs.Ytniibpihbopehaa.M
open Go Go.RowKit
set_option linter.unusedVariables false
set_option linter.unusedSimpArgs false
variable {cx : Cx} {M M' : Mp} {st : St} {a : Act} {w w' : World} {G : Pg} {p : Nat → Path → Bool}
theorem Rel.frz (R : Rel cx M st a w) {g : Nat} {c : Array Value} {e : TypeId} (hg : w.heap[g]? = some (.cells c e (0, 0))) (hnew : cx.w0.heap.size ≤ g) : Rel cx M st a (w.freeze ⟨g, c.size, none⟩ 1) := by
  have h1 : ∀ k, k ≠ g → (w.freeze ⟨g, c.size, none⟩ 1).heap[k]? = w.heap[k]? := by
    intro k hk
    simp [World.freeze, Array.getElem?_modify, Ne.symm hk]
  have h2 : (w.freeze ⟨g, c.size, none⟩ 1).heap[g]? = some (.cells c e (c.size, c.size + 1)) := by
    simp [World.freeze, Array.getElem?_modify, hg]
  have hc : ∀ b : Addr, (w.freeze ⟨g, c.size, none⟩ 1).cell? b = w.cell? b := by
    intro b
    unfold World.cell?
    by_cases hb : b.block = g
    · rw [hb]; simp only [h2, hg]
    · simp only [h1 _ hb]
  refine ⟨R.defers, R.size, R.regs, ?_, R.inj, R.away, ?_, R.root⟩
  · intro b q top sz xs h
    have F := R.flat b q top sz xs h
    refine ⟨F.lens, F.none, fun A n hA => ?_, fun A n hA i k v hv => ?_⟩
    · obtain ⟨a1, ⟨c', e', f', a2, a3⟩, a4, a5⟩ := F.there A n hA
      by_cases hb : A.block = g
      · rw [hb, hg] at a2
        cases a2
        refine ⟨a1, ⟨c, e, _, by rw [hb]; exact h2, a3⟩, fun o ho => ?_, a5⟩
        unfold World.frozen?
        simp only [hb, h2]
        rw [a3] at *
        simp; omega
      · refine ⟨a1, ⟨c', e', f', by rw [h1 _ hb]; exact a2, a3⟩, fun o ho => ?_, a5⟩
        have := a4 o ho
        unfold World.frozen? at this ⊢
        simp only [h1 _ hb]; exact this
    · rw [hc]; exact F.cell A n hA i k v hv
  · refine ⟨R.keep.os, R.keep.tape, R.keep.output, by have := R.keep.size; simp [World.freeze]; exact this, fun k hk => ?_, fun k o hk hn => ?_, fun k hk hn => ?_⟩
    · rw [← R.keep.shape k hk]; unfold World.shape?; rw [h1 k (by omega)]
    · rw [hc]; exact R.keep.cell k o hk hn
    · rw [h1 k (by omega)]; exact R.keep.block k hk hn
theorem bytes_sound (R : Rel cx M st a w) {s t e : Nat} {y z ye : Ty} (hy : G.tt s = some y) (hz : G.tt t = some z) (hs : y.str = true) (hz' : z.sl = some e) (he : G.tt e = some ye) (hk : ye.ik = some .u8) (d : Nat) (h5 : 500 ≤ d) (x : ByteArray) (hxb : x.size ≤ 140737488355328) :
    ∃ r w1 M', (convert s t (.string x)).run G.P w = .ok r w1 ∧ Rel cx M' (addBox st d false 1 (byR x.data.toList)) a w1 ∧ VR M' cx.w0 cx.Ro (.sl d [] 1 0 x.size) r := by
  have h1 := (G.ok s y hy).str hs
  have h2 := (G.ok t z hz).sl e hz'
  have h3 := (G.ok e ye he).ik _ hk
  have hge := grownCap_ge w x.size 0 e
  have hxs : x.data.size = x.size := rfl
  have hxl : x.data.toList.length = x.size := by rw [Array.length_toList]; rfl
  have hcs : (Lib.bytesCells w e x).size = grownCap w x.size 0 e := by simp [Lib.bytesCells, hxs]; omega
  have A := R.drew.alloc d h5 (Lib.bytesCells w e x) e false 1 (byR x.data.toList) (by rw [hcs]; simp [byR, hxl]; exact hge) (by
    intro i c hc
    simp only [byR, List.getElem?_map, Option.map_eq_some_iff] at hc
    obtain ⟨b, _, rfl⟩ := hc
    rfl) (by
    intro i k v hv
    obtain ⟨rfl, b, hb, rfl⟩ := cellAt_byR hv
    refine ⟨_, ?_, rfl, rfl⟩
    have hlt : i < x.data.size := by have := (List.getElem?_eq_some_iff.1 hb).1; simpa using this
    have hb' : x.data[i]? = some b := by simpa using hb
    simp only [Nat.mul_one, Nat.add_zero, Lib.bytesCells]
    rw [Array.getElem?_append_left (by simpa using hlt), Array.getElem?_map, hb']; rfl)
  have e0 : killRow (boxIs d) false (byR x.data.toList) = byR x.data.toList := rfl
  rw [e0] at A
  have hnew := heap_alloc_new w.drew (.cells (Lib.bytesCells w e x) e)
  have A2 := A.frz (g := w.heap.size) hnew R.keep.size
  refine ⟨_, _, _, Lib.run_convert_string_bytes w s t e x h1 h2 h3, A2, .sl ⟨hge, grownCap_le_maxLen w _ _ e (by simp only [maxLen]; omega)⟩ (fun _ => ⟨_, _, by simp; exact ⟨rfl, rfl⟩, by simp, by rw [hcs]; simp⟩)⟩
def litRow (sz : Nat) (xs : Row) : Prop := ∀ x ∈ xs, x.length = sz ∧ ∀ c ∈ x, ∃ y, c = .lit y ∧ y.oneCell' = true
def hasOwn (zs : List V) : Bool := zs.any V.isOwn
/-- 'append(s, x...)': the state behind it, and what it tells. -/
def appRow (st : St) (d : Nat) (eo : Option Nat) (sz : Nat) (ys : Row) (K : St → V → Prop) : Prop :=
  K { T := fun t => kill (oneOf d eo) (st.T t), B := upd (killB (oneOf d eo) (dropB st.B eo)) d (some (false, sz, ys)) } (.sl d [] sz 0 ys.length)
def strT (tt : Nat → Option Ty) (t : Nat) : Bool := match tt t with | some y => y.str | none => false
def slT (tt : Nat → Option Ty) (t : Nat) : Bool := match tt t with | some y => y.sl.isSome | none => false
def appEls (tt : Nat → Option Ty) (st : St) (y' : Ty) (t2 : Nat) (x : V) (K : Option Nat → Row → Prop) : Prop :=
  match x with
  | .lit (.string s) => chk (strT tt t2) (chk (decide (y'.ik = some .u8)) (K none (byR s.data.toList)))
  | .lit (.slice none 0 0) => chk (slT tt t2) (K none [])
  | .sl e [] sz 0 len => if hasOwn y'.zero = true then (match st.B e with | some (false, s2, E0) => chk (decide (1000 ≤ e)) (chk (decide (s2 = sz)) (chk (decide (sz = y'.size)) (len ≤ E0.length ∧ chk (slT tt t2) (K (some e) (E0.take len))))) | _ => False)
      else chk (slT tt t2) (rowV st.B (fun s xs => chk (decide (s = y'.size)) (litRow s xs ∧ K none xs)) x)
  | _ => chk (slT tt t2) (rowV st.B (fun s xs => chk (decide (s = y'.size)) (litRow s xs ∧ K none xs)) x)
/-- A root box under another name. -/
def twoIs (d d0 : Nat) : Nat → Path → Bool := fun b _ => b == d0 || b == d
def takeSt (st : St) (d d0 sz : Nat) (xs : Row) : St := { T := fun t => kill (twoIs d d0) (st.T t), B := upd (killB (twoIs d d0) (upd st.B d none)) d0 (some (false, sz, xs)) }
theorem Rel.take (R : Rel cx M st a w) {d d0 sz : Nat} {xs : Row} (hd : st.B d = some (false, sz, xs)) (h5 : 500 ≤ d0) (hne : d0 ≠ d) :
    ∃ M', Rel cx M' (takeSt st d d0 sz xs) a w ∧ (∀ r, M' d0 r = M d r) ∧ (∀ b q, twoIs d d0 b q = false → M' b q = M b q) := by
  obtain ⟨M', hM'⟩ : ∃ M' : Mp, M' = fun b q => if b = d0 then M d q else M b q := ⟨_, rfl⟩
  have m0 : ∀ r, M' d0 r = M d r := by intro r; rw [hM']; simp
  have m1 : ∀ b q, b ≠ d0 → M' b q = M b q := by intro b q h; rw [hM']; simp [h]
  have pf : ∀ b q, twoIs d d0 b q = false ↔ b ≠ d0 ∧ b ≠ d := by intro b q; simp [twoIs]
  have hM : ∀ b q, twoIs d d0 b q = false → M' b q = M b q := fun b q h => m1 b q ((pf b q).1 h).1
  have dr : ∀ r, rowsAt st.B d r = (sub sz xs r).map fun x => (false && r.isEmpty, x.1, x.2) := fun r => rowsAt_box hd r
  have live : ∀ b q t s ys, rowsAt (takeSt st d d0 sz xs).B b q = some (t, s, ys) → (b = d0 ∧ t = false ∧ rowsAt st.B d q = some (t, s, ys)) ∨ (b ≠ d0 ∧ b ≠ d ∧ ∃ zs, rowsAt st.B b q = some (t, s, zs) ∧ ys = killRow (twoIs d d0) t zs) := by
    intro b q t s ys h
    by_cases hb : b = d0
    · subst hb
      unfold takeSt at h
      rw [rowsAt_box (upd_same _ _ _)] at h
      have ht : t = false := by
        obtain ⟨z, _, h2⟩ := Option.map_eq_some_iff.1 h
        simp only [Bool.false_and, Prod.mk.injEq] at h2
        exact h2.1.symm
      exact .inl ⟨rfl, ht, by rw [dr]; exact h⟩
    · unfold takeSt at h
      rw [rowsAt_upd _ _ hb, rowsAt_killB] at h
      obtain ⟨⟨t', s', zs⟩, h1, h2⟩ := Option.map_eq_some_iff.1 h
      simp only [Prod.mk.injEq] at h2
      obtain ⟨rfl, rfl, rfl⟩ := h2
      have hbd : b ≠ d := by intro e; subst e; simp [rowsAt, upd_same] at h1
      rw [rowsAt_upd _ _ hbd] at h1
      exact .inr ⟨hb, hbd, zs, h1, rfl⟩
  refine ⟨M', ⟨R.defers, R.size, fun t => (R.regs t).struck hM, ?_, ?_, ?_, R.keep, fun b hb => ?_⟩, m0, hM⟩
  · intro b q t s ys h
    rcases live b q t s ys h with ⟨rfl, rfl, h1⟩ | ⟨h1, h2, zs, h3, rfl⟩
    · exact (R.flat _ _ _ _ _ h1).moved (m0 q) (fun i k => m0 _) (fun _ _ _ => rfl)
    · exact (R.flat _ _ _ _ _ h3).struck hM ((pf b q).2 ⟨h1, h2⟩) (fun i k s' ys' _ => (pf b _).2 ⟨h1, h2⟩) (fun _ _ _ => rfl)
  · intro b q b' q' h h' A n A' n' hA hA' hbl
    obtain ⟨⟨t, s, ys⟩, h⟩ := Option.isSome_iff_exists.1 h
    obtain ⟨⟨t', s', ys'⟩, h'⟩ := Option.isSome_iff_exists.1 h'
    rcases live b q t s ys h with ⟨rfl, rfl, h1⟩ | ⟨h1, h2, zs, h3, rfl⟩ <;> rcases live b' q' t' s' ys' h' with ⟨rfl, rfl, g1⟩ | ⟨g1, g2, zs', g3, rfl⟩
    · rw [m0] at hA hA'
      exact ⟨rfl, (R.inj d q d q' (by rw [h1]; rfl) (by rw [g1]; rfl) A n A' n' hA hA' hbl).2⟩
    · rw [m0] at hA; rw [m1 _ _ g1] at hA'
      exact absurd (R.inj d q b' q' (by rw [h1]; rfl) (by rw [g3]; rfl) A n A' n' hA hA' hbl).1.symm g2
    · rw [m1 _ _ h1] at hA; rw [m0] at hA'
      exact absurd (R.inj b q d q' (by rw [h3]; rfl) (by rw [g1]; rfl) A n A' n' hA hA' hbl).1 h2
    · rw [m1 _ _ h1] at hA; rw [m1 _ _ g1] at hA'
      exact R.inj b q b' q' (by rw [h3]; rfl) (by rw [g3]; rfl) A n A' n' hA hA' hbl
  · intro b q t s ys h A n hA
    rcases live b q t s ys h with ⟨rfl, rfl, h1⟩ | ⟨h1, h2, zs, h3, rfl⟩
    · rw [m0] at hA; exact R.away _ _ _ _ _ h1 _ _ hA
    · rw [m1 _ _ h1] at hA
      rw [killRow_length]; exact R.away _ _ _ _ _ h3 _ _ hA
  · rw [m1 b [] (by omega)]; exact R.root b hb
/-- What is put behind a row of one's own. -/
def appTo (tt : Nat → Option Ty) (st : St) (d0 sz off len : Nat) (xs : Row) (y' : Ty) (t2 : Nat) (x : V) (K : St → V → Prop) : Prop :=
  appEls tt st y' t2 x fun eo E => chk (decide (eo ≠ some d0)) ((len + E.length) * y'.bytes ≤ 140737488355328 ∧ len + E.length ≤ 140737488355328 ∧ appRow st d0 eo sz ((xs.drop off).take len ++ E) K)
def appw (tt : Nat → Option Ty) (st : St) (d0 t t2 : Nat) (s x : V) (K : St → V → Prop) : Prop :=
  match tt t with
  | none => False
  | some y => match y.sl with
    | none => False
    | some e => match tt e with
      | none => False
      | some y' => match s with
        | .sl d [] sz off len => chk (decide (sz = y'.size)) (match st.B d with
          | some (false, s2, xs) => chk (decide (s2 = sz)) (off + len ≤ xs.length ∧ (match decide (1000 ≤ d) with
            | true => appTo tt st d sz off len xs y' t2 x K
            | false => appTo tt (takeSt st d d0 sz xs) d0 sz off len xs y' t2 (kill (twoIs d d0) x) K))
          | _ => False)
        | .sl b (p :: r) sz off len => chk (decide (sz = y'.size)) (match lastOf (p :: r) with
          | some (q, i, k) => (match rowsAt st.B b q with
            | some (_, _, xs0) => ∃ xs, cellAt xs0 i k = some (.own sz xs) ∧ off + len ≤ xs.length ∧ chk (decide (d0 ≠ b)) (appTo tt (relSt st b q i k d0 sz xs) d0 sz off len xs y' t2 (kill (relP b q i k d0) x) K)
            | none => False)
          | none => False)
        | .lit (.slice none 0 0) => appEls tt (addBox st d0 false y'.size []) y' t2 (kill (boxIs d0) x) fun eo E => chk (decide (eo ≠ some d0)) (E.length * y'.bytes ≤ 140737488355328 ∧ E.length ≤ 140737488355328 ∧ appRow (addBox st d0 false y'.size []) d0 eo y'.size E K)
        | _ => False
/-- What is appended to ends where its row ends. -/
def tailz (st : St) : V → Prop
  | .sl d [] sz off len => (match st.B d with
    | some (false, _, xs) => off + len = xs.length
    | _ => False)
  | .sl b (p :: r) sz off len => (match lastOf (p :: r) with
    | some (q, i, k) => (match rowsAt st.B b q with
      | some (_, _, xs0) => ∃ xs, cellAt xs0 i k = some (.own sz xs) ∧ off + len = xs.length
      | none => False)
    | none => False)
  | .lit (.slice none 0 0) => True
  | _ => False
end Go.Proofs.Ytniibpihbopehaa.M

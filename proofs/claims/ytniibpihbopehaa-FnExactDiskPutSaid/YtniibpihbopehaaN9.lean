/- A row that is read whole; a text out of bytes, bytes out of a text; a literal's row. -/
import Derived.Test.YtniibpihbopehaaN8
namespace Go.Proofs.Ytniibpihbopehaa.M
open Go Go.RowKit
set_option linter.unusedVariables false
set_option linter.unusedSimpArgs false
variable {cx : Cx} {M M' : Mp} {st : St} {a : Act} {w w' : World} {G : Pg} {p : Nat → Path → Bool}
/-- What is known of a row that is read: where it stands, and its cells. -/
structure Lies (cx : Cx) (M : Mp) (w : World) (sz : Nat) (xs : Row) (ad : Option Addr) : Prop where
  lens : ∀ (i : Nat) (x : List V), xs[i]? = some x → x.length = sz
  cell : xs ≠ [] → ∃ A, ad = some A ∧ A.spot = none ∧ ∀ i k x, cellAt xs i k = some x → ∃ c, w.cell? ⟨A.block, A.off + i * sz + k, none⟩ = some c ∧ ∀ y, x = .lit y → c = y
theorem rowV_lies (R : Rel cx M st a w) {K : Nat → Row → Prop} {v : V} {u : Value} (h : rowV st.B K v) (hv : VR M cx.w0 cx.Ro v u) : ∃ sz xs ad cap, K sz xs ∧ u = .slice ad xs.length cap ∧ xs.length ≤ cap ∧ Lies cx M w sz xs ad := by
  unfold rowV at h
  split at h
  · rename_i sz xs
    cases hv with
    | imm hrd =>
      cases hrd with
      | nil hn =>
        rcases hn with hn | hn <;> cases hn
        exact ⟨sz, [], _, _, h, rfl, Nat.zero_le _, ⟨(fun i x hx => by simp at hx), fun h => absurd rfl h⟩⟩
      | @row _ _ _ A c U hn hs hro hc hl hcell hrd =>
        rcases hn with hn | hn <;> cases hn
        refine ⟨sz, xs, _, _, h, rfl, hc, ⟨hl, fun _ => ⟨A, rfl, hs, fun i k x hx => ⟨_, by rw [R.roCell hro]; exact hcell i k x hx, fun y hy => ?_⟩⟩⟩⟩
        have := hrd i k x hx
        subst hy
        generalize U i k = z at this
        cases this with
        | lit => rfl
        | nil hn => rcases hn with hn | hn <;> cases hn
        | row _ hn => rcases hn with hn | hn <;> cases hn
  · rename_i b q sz off len
    cases hr : rowsAt st.B b q with
    | none => rw [hr] at h; exact h.elim
    | some x =>
      obtain ⟨top, sz', xs⟩ := x
      rw [hr] at h
      simp only [chk_iff, decide_eq_true_eq] at h
      obtain ⟨rfl, h1, h2⟩ := h
      have F := R.flat _ _ _ _ _ hr
      cases hv with
      | @sl _ _ _ _ _ cap ad hle hfit =>
        have hlen : ((xs.drop off).take len).length = len := by simp; omega
        have hat : ∀ i : Nat, ((xs.drop off).take len)[i]? = if i < len then xs[off + i]? else none := by
          intro i; rw [List.getElem?_take, List.getElem?_drop]
        refine ⟨sz', _, ad, cap, h2, by rw [hlen], by rw [hlen]; exact hle.1, ⟨fun i x hx => ?_, fun hne => ?_⟩⟩
        · rw [hat] at hx
          split at hx
          · exact F.lens _ x hx
          · cases hx
        · have hpos : 0 < len := by
            rcases Nat.eq_zero_or_pos len with h0 | h0
            · subst h0; simp at hne
            · exact h0
          obtain ⟨A, n, hM, rfl, hf⟩ := hfit (by omega)
          refine ⟨_, rfl, rfl, fun i k x hx => ?_⟩
          have hx2 : cellAt xs (off + i) k = some x := by
            unfold cellAt at hx ⊢
            rw [hat] at hx
            split at hx
            · exact hx
            · cases hx
          obtain ⟨c, c1, c2, c3⟩ := F.cell A n hM _ _ _ hx2
          refine ⟨c, by rw [show A.off + off * sz' + i * sz' + k = A.off + (off + i) * sz' + k by rw [Nat.add_mul]; omega]; exact c1, fun y hy => ?_⟩
          subst hy
          exact c3
  · exact h.elim
/-- Cells one behind the other: those of a row. -/
theorem Lies.news {sz : Nat} {xs : Row} {A : Addr} (h : Lies cx M w sz xs (some A)) (hs : 0 < sz) : ∃ news : List Value, news.length = xs.length * sz ∧ (∀ j u, news[j]? = some u → w.cell? (A.add j) = some u) ∧ ∀ i k y, cellAt xs i k = some (.lit y) → news[i * sz + k]? = some y := by
  by_cases hne : xs = []
  · subst hne
    exact ⟨[], by simp, by simp, fun i k y hy => by simp [cellAt] at hy⟩
  · obtain ⟨A', e, hsp, hc⟩ := h.cell hne
    cases e
    obtain ⟨us, hl, hu⟩ := choose_list (xs.length * sz) (fun j u => w.cell? ⟨A.block, A.off + j, none⟩ = some u) (by
      intro j hj
      have hi : j / sz < xs.length := Nat.div_lt_of_lt_mul (by rw [Nat.mul_comm]; exact hj)
      have hk : j % sz < sz := Nat.mod_lt _ hs
      have hx := h.lens _ _ (List.getElem?_eq_getElem hi)
      obtain ⟨c, c1, _⟩ := hc (j / sz) (j % sz) ((xs[j / sz]'hi)[j % sz]'(by omega)) (by rw [cellAt_of (List.getElem?_eq_getElem hi)]; exact List.getElem?_eq_getElem (by omega))
      refine ⟨c, ?_⟩
      have e : A.off + j / sz * sz + j % sz = A.off + j := by rw [Nat.add_assoc, Nat.mul_comm, Nat.div_add_mod]
      rw [e] at c1; exact c1)
    refine ⟨us, hl, fun j u hj => by rw [add_of_spot hsp]; exact hu j u hj, fun i k y hy => ?_⟩
    obtain ⟨hi, hk'⟩ := cellAt_lt hy
    have hx := h.lens _ _ (List.getElem?_eq_getElem hi)
    have hk : k < sz := by rw [← hx]; exact hk' _ (List.getElem?_eq_getElem hi)
    have hlt : i * sz + k < us.length := by
      have : (i + 1) * sz ≤ xs.length * sz := Nat.mul_le_mul_right _ hi
      rw [Nat.add_mul] at this
      omega
    rw [List.getElem?_eq_getElem hlt]
    have c1 := hu _ _ (List.getElem?_eq_getElem hlt)
    obtain ⟨c, c2, c3⟩ := hc i k _ hy
    rw [← Nat.add_assoc, c2] at c1
    cases c1
    rw [c3 y rfl]
/-- A row of bytes. -/
def byR (l : List UInt8) : Row := l.map fun b => [.lit (.int .u8 (b.toNat : Int))]
theorem cellAt_byR {l : List UInt8} {i k : Nat} {v : V} (h : cellAt (byR l) i k = some v) : k = 0 ∧ ∃ b, l[i]? = some b ∧ v = .lit (.int .u8 (b.toNat : Int)) := by
  unfold cellAt byR at h
  rw [List.getElem?_map] at h
  cases hl : l[i]? with
  | none => rw [hl] at h; cases h
  | some b =>
    rw [hl] at h
    cases k with
    | zero => simp at h; exact ⟨rfl, b, rfl, h.symm⟩
    | succ k => simp at h
theorem foldl_push (l : List UInt8) : ∀ s : ByteArray, ((l.map fun b => (b.toNat : Int)).foldl (fun r n => r.push (UInt8.ofNat n.toNat)) s) = ⟨(s.data.toList ++ l).toArray⟩ := by
  induction l with
  | nil => intro s; simp
  | cons b l ih =>
    intro s
    simp only [List.map_cons, List.foldl_cons]
    rw [ih]
    congr 1
    simp [ByteArray.push]
/-- 'string(b)'. -/
theorem run_text (R : Rel cx M st a w) {s d e : Nat} {y z ye : Ty} (hy : G.tt s = some y) (hz : G.tt d = some z) (hs : y.sl = some e) (he : G.tt e = some ye) (hk : ye.ik = some .u8) (hd : z.str = true) {v : V} {u : Value} {l : List UInt8} (hv : VR M cx.w0 cx.Ro v u) (h : rowV st.B (fun sz xs => sz = 1 ∧ xs = byR l) v) :
    (convert s d u).run G.P w = .ok (.string ⟨l.toArray⟩) w := by
  obtain ⟨sz, xs, ad, cap, ⟨rfl, rfl⟩, rfl, hle, hl⟩ := rowV_lies R h hv
  have h1 := (G.ok s y hy).sl e hs
  have h2 := (G.ok e ye he).ik _ hk
  have h3 := (G.ok d z hz).str hd
  rw [run_convert_bytes_string w s d e ad _ cap h1 h2 h3]
  by_cases hne : l = []
  · subst hne
    cases ad with
    | none => simp [Conv.bytesToString, byR]; rfl
    | some A => simp [Conv.bytesToString, byR, loadCells, loadCellsFrom]; rfl
  · have hne' : byR l ≠ [] := by simpa [byR] using hne
    obtain ⟨A, rfl, hsp, hc⟩ := hl.cell hne'
    have hload : (loadCells A (byR l).length).run G.P w = .ok ((l.map fun b => (b.toNat : Int)).map (Value.int .u8)).toArray w := by
      have := run_loadCells_list (P := G.P) w A ((l.map fun b => (b.toNat : Int)).map (Value.int .u8)) (by
        intro j c hj
        simp only [List.map_map, List.getElem?_map, Option.map_eq_some_iff] at hj
        obtain ⟨b, hb, rfl⟩ := hj
        obtain ⟨c, c1, c2⟩ := hc j 0 (.lit (.int .u8 (b.toNat : Int))) (by simp [cellAt, byR, hb])
        rw [c2 _ rfl] at c1
        rw [add_of_spot hsp]
        simpa using c1)
      simpa [byR] using this
    rw [run_bytesToString w A _ cap _ hload, foldl_push]
    rfl
end Go.Proofs.Ytniibpihbopehaa.M

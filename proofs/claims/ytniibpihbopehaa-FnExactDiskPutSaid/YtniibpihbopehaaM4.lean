/- The operations that only read: what must hold ('qwp'); what each tells. -/
import Derived.Test.YtniibpihbopehaaM3
namespace Go.Proofs.Ytniibpihbopehaa.M
open Go Go.RowKit
set_option linter.unusedVariables false
set_option linter.unusedSimpArgs false
def bnds (lo hi mx : Option V) (len : Int) (K : Int → Int → Prop) : Prop :=
  match (match lo with | none => some (.lit (.int .i64 0)) | some v => some v : Option V), (match hi with | none => some (.lit (.int .i64 len)) | some v => some v : Option V), (match mx with | none => some (.lit (.int .i64 len)) | some v => some v : Option V) with
  | some (.lit (.int _ l)), some (.lit (.int _ h)), some (.lit (.int _ m)) => 0 ≤ l ∧ l ≤ h ∧ h ≤ m ∧ m ≤ len ∧ chk (!mx.isSome || hi.isSome) (K l h)
  | _, _, _ => False
def byteAt (s : ByteArray) (i : Int) : Int := ((s.data.toList.getD i.toNat 0).toNat : Int)
/-- Bytes in a row, as text. -/
def byteRow (xs : Row) : Prop := ∀ c ∈ xs, ∃ n, c = [.lit (.int .u8 n)]
def byteOf1 : List V → UInt8
  | [.lit (.int .u8 n)] => UInt8.ofNat n.toNat
  | _ => 0
def textOf (xs : Row) : ByteArray := ⟨(xs.map byteOf1).toArray⟩
variable {cx : Cx} {M : Mp} {st : St} {a : Act} {w : World} {G : Pg} {P : Program}
theorem VR.lit_ {Ro : Nat → Prop} {x u : Value} (h : VR M w Ro (.lit x) u) : u = x := by cases h; rfl
theorem run_sliceBounds (b : Bool) (len cap : Nat) (lo hi mx : Option Value) (l h m : Nat) (hm : (mx = none ∧ m = cap) ∨ ∃ k, mx = some (.int k (m : Int)) ∧ m ≤ cap) (hh : (hi = none ∧ mx = none ∧ h = len) ∨ ∃ k, hi = some (.int k (h : Int)) ∧ h ≤ m) (hl : (lo = none ∧ l = 0) ∨ ∃ k, lo = some (.int k (l : Int)) ∧ l ≤ h) :
    (Instr.sliceBounds b len cap lo hi mx).run P w = .ok (l, h, m) w := by
  have bound : ∀ (k : IntKind) (x y : Nat) (c : BoundsCode), x ≤ y → (Instr.sliceBound (.int k (x : Int)) y c).run P w = .ok x w := by
    intro k x y c hxy
    simp only [Instr.sliceBound, asIntOf, Sem.run_bind, Sem.run_pure, Result.andThen_ok]
    rw [if_pos ⟨by omega, by omega⟩]; simp
  rcases hm with ⟨rfl, rfl⟩ | ⟨km, rfl, hm⟩ <;> rcases hh with ⟨rfl, h2, rfl⟩ | ⟨kh, rfl, hh⟩ <;> rcases hl with ⟨rfl, rfl⟩ | ⟨kl, rfl, hl⟩ <;>
    first
      | (cases h2; done)
      | simp [Instr.sliceBounds, bound, *]
theorem bnds_run (R : Rel cx M st a w) (b : Bool) (lo hi mx : Option Operand) (len cap : Nat) (K : Int → Int → Prop) (h : bnds (lo.map (ev st.T)) (hi.map (ev st.T)) (mx.map (ev st.T)) len K) (hlc : len ≤ cap) :
    ∃ l h m : Nat, K l h ∧ (∀ w, (Instr.sliceBounds b len cap (lo.map a.eval) (hi.map a.eval) (mx.map a.eval)).run P w = .ok (l, h, m) w) ∧ l ≤ h ∧ h ≤ len ∧ h ≤ m ∧ m ≤ cap := by
  unfold bnds at h
  have inv : ∀ (x : Operand) (k : IntKind) (n : Int), ev st.T x = .lit (.int k n) → a.eval x = .int k n := by
    intro x k n hx
    have := R.ev_ x
    rw [hx] at this
    exact this.lit_
  have some_ : ∀ (o : Option Operand) (d : V) (z : Option V), (match o.map (ev st.T) with | none => z | some v => some v) = some d → (o = none ∧ z = some d) ∨ ∃ x, o = some x ∧ ev st.T x = d := by
    intro o d z ho
    cases o with
    | none => exact .inl ⟨rfl, ho⟩
    | some x => simp only [Option.map_some, Option.some.injEq] at ho; exact .inr ⟨x, rfl, ho⟩
  split at h
  · rename_i kl l kh hh km mm e1 e2 e3
    simp only [chk_iff] at h
    obtain ⟨h0, h1, h2, h3, h4, hK⟩ := h
    obtain ⟨l, rfl⟩ := Int.eq_ofNat_of_zero_le h0
    obtain ⟨hh, rfl⟩ := Int.eq_ofNat_of_zero_le (show 0 ≤ hh by omega)
    obtain ⟨mm, rfl⟩ := Int.eq_ofNat_of_zero_le (show 0 ≤ mm by omega)
    have q1 := some_ _ _ _ e1
    have q2 := some_ _ _ _ e2
    have q3 := some_ _ _ _ e3
    have w1 : (lo.map a.eval = none ∧ l = 0) ∨ ∃ k, lo.map a.eval = some (.int k (l : Int)) ∧ l ≤ hh := by
      rcases q1 with ⟨rfl, q⟩ | ⟨x, rfl, hx⟩
      · simp only [Option.some.injEq, V.lit.injEq, Value.int.injEq] at q; exact .inl ⟨rfl, by omega⟩
      · exact .inr ⟨kl, by rw [Option.map_some, inv x _ _ hx], by omega⟩
    rcases q3 with ⟨rfl, q3⟩ | ⟨x3, rfl, hx3⟩
    · have w2 : (hi.map a.eval = none ∧ (none : Option Operand).map a.eval = none ∧ hh = len) ∨ ∃ k, hi.map a.eval = some (.int k (hh : Int)) ∧ hh ≤ cap := by
        rcases q2 with ⟨rfl, q⟩ | ⟨x, rfl, hx⟩
        · simp only [Option.some.injEq, V.lit.injEq, Value.int.injEq] at q; exact .inl ⟨rfl, rfl, by omega⟩
        · exact .inr ⟨kh, by rw [Option.map_some, inv x _ _ hx], by omega⟩
      exact ⟨l, hh, cap, hK, fun w => run_sliceBounds b len cap _ _ _ l hh cap (.inl ⟨rfl, rfl⟩) w2 w1, by omega, by omega, by omega, Nat.le_refl _⟩
    · rcases q2 with ⟨rfl, q⟩ | ⟨x, rfl, hx⟩
      · simp at h4
      · exact ⟨l, hh, mm, hK, fun w => run_sliceBounds b len cap _ _ _ l hh mm (.inr ⟨km, by rw [Option.map_some, inv x3 _ _ hx3], by omega⟩) (.inr ⟨kh, by rw [Option.map_some, inv x _ _ hx], by omega⟩) w1, by omega, by omega, by omega, by omega⟩
  · exact h.elim
theorem slice_sl (t e : Nat) (y y' : Ty) (hy : G.tt t = some y) (he : y.sl = some e) (hy' : G.tt e = some y') {b : Nat} {q : Path} {off len cap : Nat} {ad : Option Addr} (hv : VR M cx.w0 cx.Ro (.sl b q y'.size off len) (.slice ad len cap)) (lo hi mx : Option Value) (l h m : Nat)
    (hb : ∀ w, (Instr.sliceBounds true len cap lo hi mx).run G.P w = .ok (l, h, m) w) (h1 : l ≤ h) (h2 : h ≤ m) (h3 : m ≤ cap) :
    ∃ r, (∀ w, (Instr.sliceAt t (.slice ad len cap) lo hi mx).run G.P w = .ok r w) ∧ VR M cx.w0 cx.Ro (.sl b q y'.size (off + l) (h - l)) r := by
  cases hv with
  | sl hle hfit =>
    have hu := (G.ok t y hy).sl e he
    obtain ⟨i, z, hi', hs, _⟩ := (G.ok e y' hy').info
    refine ⟨.slice (if m = l then ad else ad.map (·.add (l * i.size))) (h - l) (m - l), fun w => by simp [Instr.sliceAt, Instr.slice, run_underlying hu, hb, run_sizeOf' hi'], ?_⟩
    refine .sl (by omega) (fun hc => ?_)
    obtain ⟨A, n, hM, rfl, hfit'⟩ := hfit (by omega)
    refine ⟨A, n, hM, ?_, ?_⟩
    · rw [if_neg (by omega), Option.map_some, add_plain, hs, Nat.add_mul, Nat.add_assoc]
    · refine Nat.le_trans ?_ hfit'
      exact Nat.add_le_add_left (Nat.mul_le_mul_right _ (by omega)) _
theorem rd_cut {Ro : Nat → Prop} {sz : Nat} {xs : Row} {ad : Option Addr} {len cap l h m : Nat} {wd : World} (hr : Rd wd Ro (.imm sz xs) (.slice ad len cap)) (h1 : l ≤ h) (h2 : h ≤ m) (h3 : m ≤ cap) (h4 : h ≤ xs.length) :
    Rd wd Ro (.imm sz ((xs.take h).drop l)) (.slice (if m = l then ad else ad.map (·.add (l * sz))) (h - l) (m - l)) := by
  have hlen : ((xs.take h).drop l).length = h - l := by simp; omega
  have key : ∀ (v : V) (u : Value), Rd wd Ro v u → v = .imm sz xs → u = .slice ad len cap → Rd wd Ro (.imm sz ((xs.take h).drop l)) (.slice (if m = l then ad else ad.map (·.add (l * sz))) (h - l) (m - l)) := by
    intro v u hr hv hu
    cases hr with
    | lit x => cases hv
    | undef x => cases hv
    | nil hn =>
      rcases hn with rfl | rfl
      · cases hv
      · cases hv
        have : h - l = 0 := by simp at h4; omega
        rw [this]
        have e : ((([] : Row).take h).drop l) = [] := by simp
        rw [e]
        exact .nil (.inr rfl)
    | @row _ _ _ A c U hn hs hro hc hl hcell hrd =>
      rcases hn with rfl | rfl
      · cases hv
      · cases hv
        cases hu
        by_cases hz : h - l = 0
        · rw [hz]
          have e : ((xs.take h).drop l) = [] := by apply List.eq_nil_of_length_eq_zero; omega
          rw [e]
          exact .nil (.inr rfl)
        · rw [if_neg (by omega), Option.map_some, add_of_spot hs]
          have hat : ∀ i, ((xs.take h).drop l)[i]? = if i < h - l then xs[l + i]? else none := by
            intro i
            rw [List.getElem?_drop, List.getElem?_take]
            by_cases hi : i < h - l
            · rw [if_pos hi, if_pos (by omega)]
            · rw [if_neg hi, if_neg (by omega)]
          have hcat : ∀ i k u, cellAt ((xs.take h).drop l) i k = some u → cellAt xs (l + i) k = some u := by
            intro i k u hu
            unfold cellAt at hu ⊢
            rw [hat] at hu
            by_cases hi : i < h - l
            · rw [if_pos hi] at hu; exact hu
            · rw [if_neg hi] at hu; cases hu
          have := Rd.row (w := wd) (Ro := Ro) (v := .imm sz ((xs.take h).drop l)) (sz := sz) (xs := (xs.take h).drop l) (A := ⟨A.block, A.off + l * sz, none⟩) (c := m - l) (fun i k => U (l + i) k) (.inr rfl) rfl hro (by omega)
            (fun i x hx => by
              rw [hat] at hx
              by_cases hi : i < h - l
              · rw [if_pos hi] at hx; exact hl _ _ hx
              · rw [if_neg hi] at hx; cases hx)
            (fun i k u hu => by
              have := hcell (l + i) k u (hcat i k u hu)
              rw [show A.off + l * sz + i * sz + k = A.off + (l + i) * sz + k by rw [Nat.add_mul]; omega]
              exact this)
            (fun i k u hu => hrd (l + i) k u (hcat i k u hu))
          rw [hlen] at this
          exact this
  exact key _ _ hr rfl rfl
end Go.Proofs.Ytniibpihbopehaa.M

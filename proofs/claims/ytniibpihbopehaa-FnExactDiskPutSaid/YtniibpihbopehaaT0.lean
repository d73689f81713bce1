/- Regions that draw their order: the kit's law, one more word. -/
import Derived.Test.YtniibpihbopehaaO9
import Derived.Deep.Quiet
namespace Go.Proofs.Ytniibpihbopehaa.M
open Go Go.RowKit
set_option linter.unusedVariables false
set_option linter.unusedSimpArgs false
theorem wpQuiet_mono {P : Program} {ops : Array Oper} {C : World → Prop} {Q Q' : Act → Prop} (hq : ∀ a, Q a → Q' a) : ∀ {l : List Oper} {a : Act}, wpQuiet P ops C Q l a → wpQuiet P ops C Q' l a := by
  intro l
  induction l with
  | nil => intro a h; exact hq _ h
  | cons o r ih =>
    intro a h
    unfold wpQuiet at h ⊢
    split
    · rename_i hw
      rw [if_pos hw] at h
      exact Oper.quiet_mono (fun a h => ih h) h
    · rename_i hw
      rw [if_neg hw] at h
      exact ih h
end Go.Proofs.Ytniibpihbopehaa.M

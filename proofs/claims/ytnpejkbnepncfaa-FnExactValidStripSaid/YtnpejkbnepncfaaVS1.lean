/- Contracts of the functions that the law on ValidStrip reaches: bounds. No conditions. -/
import Derived.Test.YtnpejkbnepncfaaVaiT
import Derived.Test.YtnpejkbnepncfaaRows
import Derived.ProofKit
namespace Go.Proofs.Ytnpejkbnepncfaa
open Go.Vai
set_option maxRecDepth 100000

theorem mixed : Try.prog.follows .mixedOrders = true := by kernel_rfl
noncomputable def C0 : Ctx := ⟨Try.prog, fun _ => none, fun _ => none⟩
abbrev I64 : Ty := .int .i64
abbrev aI : AT := .val false I64
abbrev aS : AT := .val false (.slice I64)
abbrev rB (b : Bool) : AV := .c (.v (.bool b))
abbrev rI (n : Int) : AV := .c (.v (.int .i64 n))
abbrev vI (n : Int) : Val := ⟨false, [.v (.int .i64 n)]⟩
abbrev vS (l : List Int) : Val := ⟨false, [.sl I64 l]⟩
abbrev K2 : AV → List CV → Option (AV × List CV) := fun a cs => some (a, cs)

/-! within, l00In -/
def within (a b c : Int) : Bool := cond (decide (a ≥ b)) (decide (a ≤ c)) false

theorem r37 (a b c : Int) : runF (tab C0 []) noHints 1 Try.f37 [] [] [vI a, vI b, vI c] K2 = some (rB (within a b c), []) :=
  (show runF (tab C0 []) noHints 1 Try.f37 [] [] [vI a, vI b, vI c] K2 = cond (decide (a ≥ b)) (some (rB (decide (a ≤ c)), [])) (some (rB false, [])) by kernel_rfl).trans
    (by unfold within; cases decide (a ≥ b) <;> rfl)

abbrev k37 : Contract := .fn [aI, aI, aI] Bool (fun z => some (within z.1 z.2.1 z.2.2.1)) rB

theorem s37 : Sound C0 37 k37 :=
  Sound.fn (t := []) AllSound.nil mixed Try.func37 (by kernel_rfl) (by kernel_rfl) noHints 1 noHints_ok (fun z x h => by cases h; exact r37 z.1 z.2.1 z.2.2.1)

theorem r56 (a b c : Int) : runF (tab C0 []) noHints 1 Try.f56 [] [] [vI a, vI b, vI c] K2 = some (rB (within a b c), []) :=
  (show runF (tab C0 []) noHints 1 Try.f56 [] [] [vI a, vI b, vI c] K2 = cond (decide (a ≥ b)) (some (rB (decide (a ≤ c)), [])) (some (rB false, [])) by kernel_rfl).trans
    (by unfold within; cases decide (a ≥ b) <;> rfl)
abbrev k56 : Contract := .fn [aI, aI, aI] Bool (fun z => some (within z.1 z.2.1 z.2.2.1)) rB
theorem s56 : Sound C0 56 k56 :=
  Sound.fn (t := []) AllSound.nil mixed Try.func56 (by kernel_rfl) (by kernel_rfl) noHints 1 noHints_ok (fun z x h => by cases h; exact r56 z.1 z.2.1 z.2.2.1)

def T1 : List (FuncId × Contract) := [(37, k37), (56, k56)]
theorem a1 : AllSound C0 T1 := AllSound.cons s37 (AllSound.cons s56 AllSound.nil)

end Go.Proofs.Ytnpejkbnepncfaa

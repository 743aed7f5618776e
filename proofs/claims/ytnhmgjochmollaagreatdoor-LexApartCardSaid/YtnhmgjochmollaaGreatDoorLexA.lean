/- Contracts of the small functions of package lex: which bytes are digits, letters, parts of a word; what stands behind a place; a run of letters. No conditions but sizes. -/
import Derived.Test.YtnhmgjochmollaaGreatDoorChecked
import Derived.WalkKit
import Derived.KernelRfl
import Derived.OwnWalk
import Derived.Below
import Derived.Lib.Hide
import Derived.Outline
import Derived.WalkSpells
namespace Go.Proofs.YtnhmgjochmollaaGreatDoor
open Go.RowKit
set_option linter.unusedSimpArgs false
set_option linter.unusedVariables false

def digB (c : Int) : Bool := decide (48 ≤ c) && decide (c ≤ 57)
def letB (c : Int) : Bool := (decide (97 ≤ c) && decide (c ≤ 122)) || (decide (65 ≤ c) && decide (c ≤ 90)) || (c == 95)
def partB (c : Int) : Bool := digB c || letB c

theorem digit_calls (c : Int) (w : World) : Calls Tryz.prog 63 #[.int .u8 c] w fun e w' => e = .returned (.bool (digB c)) ∧ w = w' := by
  go_enter Tryz.func63, Tryz.ntmps63
  go_wp2
  all_goals go_ret
  all_goals first | (simp [digB, *]; done) | (simp [digB, *]; omega)

theorem letter_calls (c : Int) (w : World) : Calls Tryz.prog 61 #[.int .u8 c] w fun e w' => e = .returned (.bool (letB c)) ∧ w = w' := by
  by_cases h1 : 97 ≤ c <;> by_cases h2 : c ≤ 122 <;> by_cases h3 : 65 ≤ c <;> by_cases h4 : c ≤ 90 <;> (first | (exfalso; omega) | skip)
  all_goals
    go_enter Tryz.func61, Tryz.ntmps61
    go_wp2
  all_goals go_ret
  all_goals first | (simp [letB, *]; done) | (simp [letB, *]; omega)

theorem part_calls (c : Int) (w : World) : Calls Tryz.prog 169 #[.int .u8 c] w fun e w' => e = .returned (.bool (partB c)) ∧ w = w' := by
  cases hd : digB c
  all_goals
    have H := Lib.hid hd
    clear hd
    go_enter Tryz.func169, Tryz.ntmps169
    go_wp2_with fail
    refine (digit_calls _ _).mono ?_
    rintro e w' ⟨rfl, rfl⟩
    rw [H.out]
    go_wp2_with (refine (letter_calls _ _).mono ?_; rintro e w' ⟨rfl, rfl⟩)
    go_ret
    exact ⟨by simp [partB, H.out], rfl⟩

end Go.Proofs.YtnhmgjochmollaaGreatDoor

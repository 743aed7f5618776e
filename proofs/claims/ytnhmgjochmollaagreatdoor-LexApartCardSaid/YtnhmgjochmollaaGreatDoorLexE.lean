/- Contracts of lex.escapes and lex.escape: which bytes escapes of one letter are; which byte an escape is, and how long. Conditions: a text of at most 4000 bytes. -/
import Derived.Test.YtnhmgjochmollaaGreatDoorLexD
import Derived.Test.YtnhmgjochmollaaGreatDoorMaps
namespace Go.Proofs.YtnhmgjochmollaaGreatDoor
open Go.RowKit
set_option linter.unusedSimpArgs false
set_option linter.unusedVariables false

def escList : List (Int × Int) := [(110, 10), (116, 9), (114, 13), (48, 0), (92, 92), (39, 39), (34, 34)]
def escMap : List (Int × Value) := escList.map fun p => (p.1, .int .u8 p.2)
theorem u8_under : Tryz.prog.underlying 5 = some (.int .u8) := by kernel_rfl
theorem esc_under : Tryz.prog.underlying 182 = some (.map 5 5) := by kernel_rfl
theorem u8_zero (w : World) : (zeroValue 5).run Tryz.prog w = .ok (.int .u8 0) w := by kernel_rfl
theorem grown_step {w w1 w2 : World} {b : Nat} (h : w.grownBy w1 (some b)) (k : w1.grownBy w2 (some b)) : w.grownBy w2 (some b) := h.trans k
theorem escapes_calls (w : World) :
    Calls Tryz.prog 174 #[] w fun e w' => e = .returned (.map (some w.heap.size)) ∧ IMap w' w.heap.size .u8 escMap ∧ Below w.heap.size w w' := by
  have hmm := @run_makeMap Tryz.prog
  have i0 := imap_made w .u8
  obtain ⟨w1, r1, i1, g1⟩ := imap_put i0 182 5 5 esc_under u8_under 110 (.int .u8 10)
  obtain ⟨w2, r2, i2, g2⟩ := imap_put i1 182 5 5 esc_under u8_under 116 (.int .u8 9)
  obtain ⟨w3, r3, i3, g3⟩ := imap_put i2 182 5 5 esc_under u8_under 114 (.int .u8 13)
  obtain ⟨w4, r4, i4, g4⟩ := imap_put i3 182 5 5 esc_under u8_under 48 (.int .u8 0)
  obtain ⟨w5, r5, i5, g5⟩ := imap_put i4 182 5 5 esc_under u8_under 92 (.int .u8 92)
  obtain ⟨w6, r6, i6, g6⟩ := imap_put i5 182 5 5 esc_under u8_under 39 (.int .u8 39)
  obtain ⟨w7, r7, i7, g7⟩ := imap_put i6 182 5 5 esc_under u8_under 34 (.int .u8 34)
  have I := Lib.hid i7
  have G := Lib.hid (g1.trans (g2.trans (g3.trans (g4.trans (g5.trans (g6.trans g7))))))
  clear i0 i1 i2 i3 i4 i5 i6 i7 g1 g2 g3 g4 g5 g6 g7
  go_enter Tryz.func174, Tryz.ntmps174
  go_wp2
  go_ret
  exact ⟨rfl, I.out, ((Below.refl _ _).alloc (Nat.le_refl _) _).grown G.out (by simp) (by simp)⟩
end Go.Proofs.YtnhmgjochmollaaGreatDoor

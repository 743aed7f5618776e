/- Contracts of strconv.ParseUint as package lex calls it, and of lex.escape. Conditions: four of the library's variables hold what their types and initialisers let them hold (Amb). -/
import Derived.Test.YtnhmgjochmollaaGreatDoorLexG
import Derived.WalkSmall
namespace Go.Proofs.YtnhmgjochmollaaGreatDoor
open Go.RowKit
set_option linter.unusedSimpArgs false
set_option linter.unusedVariables false

/-- How many package-level variables there are. -/
def gN : Nat := 12
/-- What the library's variables hold. -/
structure Amb (w : World) : Prop where
  mx : ∃ m, w.cell? ⟨0, 0, none⟩ = some (.int .i64 m)
  sp : Sp w
  es : ∃ ev, w.cell? ⟨4, 0, none⟩ = some ev ∧ (ev = .nilIface ∨ ∃ te pe, ev = .iface te pe)
  er : ∃ ev, w.cell? ⟨5, 0, none⟩ = some ev ∧ (ev = .nilIface ∨ ∃ te pe, ev = .iface te pe)
  lo : gN ≤ w.heap.size
theorem spGlobal : Tryz.prog.globalNamed "strings.asciiSpace" = some 1 := by kernel_rfl
theorem Amb.grown {w w' : World} {row : Option Nat} (h : Amb w) (hg : w.grownBy w' row) (hr : ∀ b, row = some b → gN ≤ b) : Amb w' := by
  have hc : ∀ g v, g < gN → w.cell? ⟨g, 0, none⟩ = some v → w'.cell? ⟨g, 0, none⟩ = some v := fun g v hg' hv => hg.cell hv (fun e => by have := hr g (by rw [← e]); omega)
  obtain ⟨m, hm⟩ := h.mx
  obtain ⟨e1, h1, k1⟩ := h.es
  obtain ⟨e2, h2, k2⟩ := h.er
  exact ⟨⟨m, hc _ _ (by decide) hm⟩, var?_below (B := gN) ⟨hg.os, hg.tape, hg.output, hg.size, fun k hk => hg.block k (Nat.lt_of_lt_of_le hk h.lo) (fun e => by have := hr k e.symm; omega)⟩ spGlobal (by decide) h.sp, ⟨e1, hc _ _ (by decide) h1, k1⟩, ⟨e2, hc _ _ (by decide) h2, k2⟩, Nat.le_trans h.lo hg.size⟩
theorem Amb.below {w w' : World} (h : Amb w) (hb : Below w.heap.size w w') : Amb w' := h.grown (row := none) ⟨hb.os, hb.tape, hb.output, hb.size, fun k hk _ => hb.block k hk⟩ (by simp)

/-- What ParseUint hands back: the number and no error, or some number and an error that is not nil. -/
def PuPost (r : Lib.NumEnd Nat) (w : World) (e : Ending) (w' : World) : Prop :=
  Below w.heap.size w w' ∧ match r with
    | .ok u => e = .returned (.tuple #[.int .u64 u, .nilIface])
    | _ => ∃ n T x, e = .returned (.tuple #[.int .u64 n, .iface T x])

theorem parse_pub (b bits : Int) (M : Int) (r : Lib.NumEnd Nat) (s : ByteArray) (w : World) (hA : Amb w) (hs : s.size ≤ 281474976710656)
    (hin : ∀ w, Calls Tryz.prog 172 #[.string s, .int .i64 b, .int .i64 bits] w fun e w' => e = .returned (Lib.uintTupleM 216 M r) ∧ w' = Lib.bytesWorld w 5 s) :
    Calls Tryz.prog 107 #[.string s, .int .i64 b, .int .i64 bits] w (PuPost r w) := by
  have A := Lib.hid hA
  have HI := Lib.hid hin
  clear hA hin
  have hb0 := Lib.bytesWorld_below w 5 s
  obtain ⟨W, hW⟩ : ∃ W, W = Lib.bytesWorld w 5 s := ⟨_, rfl⟩
  rw [← hW] at hb0
  have HW := Lib.hid hW
  have B := Lib.hid hb0
  clear hW hb0
  rcases r with u | _ | _
  ·
    go_enter Tryz.func107, Tryz.ntmps107
    go_wp2_with (refine (HI.out _).mono ?_; rintro e w' ⟨rfl, hw⟩; rw [← HW.out] at hw; subst hw; unfold Lib.uintTupleM)
    go_ret2
    exact ⟨B.out, rfl⟩
  ·
    obtain ⟨ev, h1, h2⟩ := (A.out.below B.out).es
    have E1 := Lib.hid h1
    have E2 := Lib.hid h2
    clear h1 h2
    go_enter Tryz.func107, Tryz.ntmps107
    go_wp2_with fail
    refine (HI.out _).mono ?_
    rintro e w' ⟨rfl, hw⟩
    rw [← HW.out] at hw
    subst hw
    unfold Lib.uintTupleM
    go_wp2_with fail
    refine (Tryz.strconv_toError_syntax _ _ _ _ ev _ hs E1.out E2.out).mono ?_
    rintro e w2 ⟨N, rfl, _, _, hb2⟩
    have B2 := Lib.hid hb2
    clear hb2
    go_wp2
    go_ret2
    exact ⟨B.out.trans (B2.out.mono B.out.size), _, _, _, rfl⟩
  ·
    obtain ⟨ev, h1, h2⟩ := (A.out.below B.out).er
    have E1 := Lib.hid h1
    have E2 := Lib.hid h2
    clear h1 h2
    go_enter Tryz.func107, Tryz.ntmps107
    go_wp2_with fail
    refine (HI.out _).mono ?_
    rintro e w' ⟨rfl, hw⟩
    rw [← HW.out] at hw
    subst hw
    unfold Lib.uintTupleM
    go_wp2_with fail
    refine (Tryz.strconv_toError_range _ _ _ _ ev _ hs E1.out E2.out).mono ?_
    rintro e w2 ⟨N, rfl, _, _, hb2⟩
    have B2 := Lib.hid hb2
    clear hb2
    go_wp2
    go_ret2
    exact ⟨B.out.trans (B2.out.mono B.out.size), _, _, _, rfl⟩

theorem parse_8 (s : ByteArray) (w : World) (hA : Amb w) (h0 : s.size ≠ 0) (hs : s.size ≤ 4000) : Calls Tryz.prog 107 #[.string s, .int .i64 8, .int .i64 64] w (PuPost (pu 8 18446744073709551615 0 s.data.toList) w) :=
  parse_pub 8 64 18446744073709551615 _ s w hA (by omega) fun w => pu_8_64 s h0 (by omega) w
theorem parse_10 (s : ByteArray) (w : World) (hA : Amb w) (h0 : s.size ≠ 0) (hs : s.size ≤ 4000) : Calls Tryz.prog 107 #[.string s, .int .i64 10, .int .i64 64] w (PuPost (pu 10 18446744073709551615 0 s.data.toList) w) :=
  parse_pub 10 64 18446744073709551615 _ s w hA (by omega) fun w => pu_10_64 s h0 (by omega) w
theorem parse_16 (s : ByteArray) (w : World) (hA : Amb w) (h0 : s.size ≠ 0) (hs : s.size ≤ 4000) : Calls Tryz.prog 107 #[.string s, .int .i64 16, .int .i64 64] w (PuPost (pu 16 18446744073709551615 0 s.data.toList) w) :=
  parse_pub 16 64 18446744073709551615 _ s w hA (by omega) fun w => pu_16_64 s h0 (by omega) w
theorem parse_byte (s : ByteArray) (w : World) (hA : Amb w) (h0 : s.size ≠ 0) (hs : s.size ≤ 4000) : Calls Tryz.prog 107 #[.string s, .int .i64 16, .int .i64 8] w (PuPost (pu 16 255 0 s.data.toList) w) :=
  parse_pub 16 8 255 _ s w hA (by omega) fun w => pu_16_8 s h0 (by omega) w
end Go.Proofs.YtnhmgjochmollaaGreatDoor

/- Contracts of lex.Line at one text, and of the law's LexKnown. Conditions: what the library's variables hold (Amb). -/
import Derived.Test.YtnhmgjochmollaaGreatDoorLexAA
import Derived.Test.YtnhmgjochmollaaGreatDoorLexY
import Derived.Deep.RegionHeld3
namespace Go.Proofs.YtnhmgjochmollaaGreatDoor
open Go.RowKit Go.Proofs.YtnhmgjochmollaaGreatDoorW.PrintWords
set_option linter.unusedSimpArgs false
set_option linter.unusedVariables false

theorem ex_3 : scanOf [97, 43, 43, 43, 98, 32, 47, 47, 32, 99] = .ok [⟨1, 0, 1, [97], 0, []⟩, ⟨6, 1, 2, [43, 43], 0, []⟩, ⟨6, 3, 1, [43], 0, []⟩, ⟨1, 4, 1, [98], 0, []⟩] := by kernel_rfl
theorem ex_4 : scanOf [48, 49, 55, 117, 76, 32, 39, 97, 39, 32, 39, 92, 110, 39, 32, 34, 97, 92, 120, 52, 49, 34] = .ok [⟨3, 0, 5, [117, 108], 15, []⟩, ⟨4, 6, 3, [], 97, []⟩, ⟨4, 10, 4, [], 10, []⟩, ⟨5, 15, 7, [], 0, [97, 65]⟩] := by kernel_rfl
theorem ex_5 : scanOf [48, 57] = .error (10, 0) := by kernel_rfl
theorem ex_6 : scanOf [49, 56, 52, 52, 54, 55, 52, 52, 48, 55, 51, 55, 48, 57, 53, 53, 49, 54, 49, 54] = .error (5, 0) := by kernel_rfl
theorem ex_7 : scanOf [34, 97] = .error (4, 0) := by kernel_rfl
theorem ex_8 : scanOf [47, 42, 32, 120] = .error (4, 0) := by kernel_rfl
theorem ex_9 : scanOf [64] = .error (10, 0) := by kernel_rfl

/-- A token in a block of its own (b), within a round; its bytes are read; what else holds there. -/
structure ApR (bw : World) (t : Tok) (b : Nat) (A1 : Option Addr) (d1 : Nat) (w : World) : Prop where
  k : w.heap[b]? = some (.cells #[.int .i64 t.kind, .int .i64 t.at_, .int .i64 t.size, .string ⟨t.text.toArray⟩, .int .i64 t.n, .slice A1 t.bytes.length d1] 33 (0, 0))
  amb : Amb w
  bytes : t.bytes.length ≤ d1 ∧ byteK.C w A1 t.bytes.length t.bytes
  below : Below bw.heap.size bw w
theorem ApR.step {bw w w1 : World} {t : Tok} {b : Nat} {A1 : Option Addr} {d1 : Nat} (h : ApR bw t b A1 d1 w) (hb : Below w.heap.size w w1) : ApR bw t b A1 d1 w1 :=
  ⟨(hb.block b (Array.getElem?_eq_some_iff.1 h.k).1).trans h.k, h.amb.below hb, ⟨h.bytes.1, Kd.C_below h.bytes.2 hb⟩, h.below.trans (hb.mono h.below.size)⟩
theorem ApR.alloc {bw w : World} {t : Tok} {b : Nat} {A1 : Option Addr} {d1 : Nat} (h : ApR bw t b A1 d1 w) (o : Obj) : ApR bw t b A1 d1 (w.alloc o) := h.step ((Below.refl _ _).alloc (Nat.le_refl _) _)
theorem ApR.drew {bw w : World} {t : Tok} {b : Nat} {A1 : Option Addr} {d1 : Nat} (h : ApR bw t b A1 d1 w) : ApR bw t b A1 d1 w.drew := h.step ((Below.refl _ _).drew)
theorem ap_six {bw w : World} {kd a z n : Int} {tx bs : List UInt8} {b : Nat} {A1 : Option Addr} {d1 : Nat} (h : ApR bw ⟨kd, a, z, tx, n, bs⟩ b A1 d1 w) :
    w.cell? ⟨b, 0, none⟩ = some (.int .i64 kd) ∧ w.cell? ⟨b, 1, none⟩ = some (.int .i64 a) ∧ w.cell? ⟨b, 2, none⟩ = some (.int .i64 z) ∧ w.cell? ⟨b, 3, none⟩ = some (.string ⟨tx.toArray⟩) ∧ w.cell? ⟨b, 4, none⟩ = some (.int .i64 n) ∧ w.cell? ⟨b, 5, none⟩ = some (.slice A1 bs.length d1) ∧ ApR bw ⟨kd, a, z, tx, n, bs⟩ b A1 d1 w := by
  obtain ⟨a0, a1, a2, a3, a4, a5, _⟩ := cells6 h.k
  exact ⟨a0, a1, a2, a3, a4, a5, h⟩
theorem tk_nil (w : World) : Tk w none [] := ⟨Kd.C_nil tokK w, fun h => absurd h (by simp)⟩
/-- A token alone, in a block of its own. -/
theorem tk_one {bw w : World} {kd a z n : Int} {tx bs : List UInt8} {b : Nat} {A1 : Option Addr} {d1 : Nat} (h : ApR bw ⟨kd, a, z, tx, n, bs⟩ b A1 d1 w) (p : Int) :
    Tk (w.alloc (.cells #[.int .i64 kd, .int .i64 p, .int .i64 z, .string ⟨tx.toArray⟩, .int .i64 n, .slice A1 bs.length d1] 33)) (some ⟨w.heap.size, 0, none⟩) [⟨kd, p, z, tx, n, bs⟩] := by
  refine tk_built [(⟨kd, p, z, tx, n, bs⟩, A1, d1)] (heap_alloc_new w _) (by simp) (fun x hx => ?_)
  rw [List.mem_singleton.1 hx]
  exact ⟨h.bytes.1, Kd.C_below h.bytes.2 ((Below.refl _ _).alloc (Nat.le_refl _) _)⟩

theorem byte_two {w : World} {g : Nat} {a b : UInt8} {t : TypeId} (h : w.heap[g]? = some (.cells #[.int .u8 a.toNat, .int .u8 b.toNat] t (0, 0))) : byteK.C w (some ⟨g, 0, none⟩) 2 [a, b] := by
  refine ⟨rfl, by omega, fun _ => ⟨_, rfl, fun j p hj => ⟨[encU p], rfl, rfl, fun i u hu => ?_⟩⟩⟩
  have hi : i = 0 := by have := (List.getElem?_eq_some_iff.1 hu).1; simpa using this
  subst hi
  simp at hu
  subst hu
  rw [Addr.add_mid, cell_of_row w g _ _ _ _ h]
  match j, hj with
  | 0, hj => simp at hj; subst hj; rfl
  | 1, hj => simp at hj; subst hj; rfl
  | j + 2, hj => simp at hj
theorem known_start {w w1 : World} (hA : Amb w) (hB : Below w.heap.size w w1) :
    ApR w ⟨5, 16, 7, [], 0, [97, 65]⟩ w1.heap.size (some ⟨w1.heap.size + 1, 0, none⟩) 2 ((w1.alloc (.cells #[.int .i64 5, .int .i64 16, .int .i64 7, .string ⟨#[]⟩, .int .i64 0, .slice (some ⟨w1.heap.size + 1, 0, none⟩) 2 2] 33)).alloc (.cells #[.int .u8 97, .int .u8 65] 5)) :=
  have hb : Below w.heap.size w ((w1.alloc (.cells #[.int .i64 5, .int .i64 16, .int .i64 7, .string ⟨#[]⟩, .int .i64 0, .slice (some ⟨w1.heap.size + 1, 0, none⟩) 2 2] 33)).alloc (.cells #[.int .u8 97, .int .u8 65] 5)) := (hB.alloc hB.size _).alloc (by have := hB.size; simp; omega) _
  ⟨heap_one _ _ _, hA.below hb, ⟨Nat.le_refl _, byte_two (heap_two _ _ _)⟩, hb⟩
theorem tk_known {bw W : World} {b : Nat} {A1 : Option Addr} (h : ApR bw ⟨5, 16, 7, [], 0, [97, 65]⟩ b A1 2 W) :
    Tk (W.alloc (.cells #[.int .i64 3, .int .i64 0, .int .i64 5, .string ⟨#[117, 108]⟩, .int .i64 15, .slice none 0 0, .int .i64 4, .int .i64 6, .int .i64 3, .string ⟨#[]⟩, .int .i64 97, .slice none 0 0, .int .i64 4, .int .i64 10, .int .i64 4, .string ⟨#[]⟩, .int .i64 10, .slice none 0 0, .int .i64 5, .int .i64 15, .int .i64 7, .string ⟨#[]⟩, .int .i64 0, .slice A1 2 2] 33))
      (some ⟨W.heap.size, 0, none⟩) [⟨3, 0, 5, [117, 108], 15, []⟩, ⟨4, 6, 3, [], 97, []⟩, ⟨4, 10, 4, [], 10, []⟩, ⟨5, 15, 7, [], 0, [97, 65]⟩] := by
  refine tk_built [(⟨3, 0, 5, [117, 108], 15, []⟩, none, 0), (⟨4, 6, 3, [], 97, []⟩, none, 0), (⟨4, 10, 4, [], 10, []⟩, none, 0), (⟨5, 15, 7, [], 0, [97, 65]⟩, A1, 2)] (heap_alloc_new W _) (by simp) (fun x hx => ?_)
  have hn := byte_none (W.alloc (.cells #[.int .i64 3, .int .i64 0, .int .i64 5, .string ⟨#[117, 108]⟩, .int .i64 15, .slice none 0 0, .int .i64 4, .int .i64 6, .int .i64 3, .string ⟨#[]⟩, .int .i64 97, .slice none 0 0, .int .i64 4, .int .i64 10, .int .i64 4, .string ⟨#[]⟩, .int .i64 10, .slice none 0 0, .int .i64 5, .int .i64 15, .int .i64 7, .string ⟨#[]⟩, .int .i64 0, .slice A1 2 2] 33))
  have hc := Kd.C_below h.bytes.2 ((Below.refl _ _).alloc (Nat.le_refl _) (.cells #[.int .i64 3, .int .i64 0, .int .i64 5, .string ⟨#[117, 108]⟩, .int .i64 15, .slice none 0 0, .int .i64 4, .int .i64 6, .int .i64 3, .string ⟨#[]⟩, .int .i64 97, .slice none 0 0, .int .i64 4, .int .i64 10, .int .i64 4, .string ⟨#[]⟩, .int .i64 10, .slice none 0 0, .int .i64 5, .int .i64 15, .int .i64 7, .string ⟨#[]⟩, .int .i64 0, .slice A1 2 2] 33))
  simp only [List.mem_cons, List.not_mem_nil, or_false] at hx
  rcases hx with rfl | rfl | rfl | rfl
  · exact ⟨Nat.le_refl _, hn⟩
  · exact ⟨Nat.le_refl _, hn⟩
  · exact ⟨Nat.le_refl _, hn⟩
  · exact ⟨Nat.le_refl _, hc⟩

theorem scans_ok (s : ByteArray) (us : List Tok) (A : Option Addr) (c : Nat) (w : World) (hA : Amb w) (hU : Tk w A us) (h : scanOf s.data.toList = .ok us) :
    Calls Tryz.prog 15 #[.string s, .slice A us.length c] w fun e w' => e = .returned (.bool true) ∧ Below w.heap.size w w' := by
  have := scans_calls s us A c w hA hU
  rwa [scans_true h] at this

theorem line_known (w : World) :
    Calls Tryz.prog 32 #[.string ⟨#[97, 10, 98, 99]⟩, .int .i64 3] w fun e w' => e = .returned (.tuple #[.int .i64 2, .int .i64 2]) ∧ w = w' := by
  go_enter Tryz.func32, Tryz.ntmps32
  go_wp2_with fail
  refine (Tryz.strings_Count_one _ 10 _).mono ?_
  rintro e w' ⟨rfl, rfl⟩
  go_wp2_with fail
  refine (Tryz.strings_LastIndexByte _ _ (by decide) _).mono ?_
  rintro e w' ⟨rfl, rfl⟩
  go_wp2_with fail
  go_ret2
  exact ⟨by kernel_rfl, rfl⟩

set_option maxHeartbeats 1000000 in
set_option maxRecDepth 20000 in
theorem lexKnown_calls (w : World) (hA : Amb w) :
    Calls Tryz.prog 14 #[] w fun e' w' => e' = .returned (.bool true) ∧ Below w.heap.size w w' := by
  have A0 := Lib.hid hA
  clear hA
  go_enter Tryz.func14, Tryz.ntmps14
  go_wp2_with fail
  refine (of_calls _ _ _ _ _ _).mono ?_
  rintro e w1 ⟨rfl, hb1⟩
  have B1 := Lib.hid hb1
  clear hb1
  go_wp2_with fail
  refine (of_calls _ _ _ _ _ _).mono ?_
  rintro e w2 ⟨rfl, hb1⟩
  have R2 := Lib.hid ((known_start A0.out B1.out).step hb1)
  clear hb1
  go_wp2_with fail
  refine (of_calls _ _ _ _ _ _).mono ?_
  rintro e w3 ⟨rfl, hb1⟩
  have R3 := Lib.hid (R2.out.step hb1)
  clear hb1
  go_wp2_with fail
  refine (of_calls _ _ _ _ _ _).mono ?_
  rintro e w4 ⟨rfl, hb1⟩
  have R4 := Lib.hid (R3.out.step hb1)
  clear hb1
  go_wp2_with fail
  refine (of_calls _ _ _ _ _ _).mono ?_
  rintro e w5 ⟨rfl, hb1⟩
  have R5 := Lib.hid (R4.out.step hb1)
  clear hb1
  go_wp2_with fail
  refine (scans_ok ⟨#[97, 43, 43, 43, 98, 32, 47, 47, 32, 99]⟩ [⟨1, 0, 1, [97], 0, []⟩, ⟨6, 1, 2, [43, 43], 0, []⟩, ⟨6, 3, 1, [43], 0, []⟩, ⟨1, 4, 1, [98], 0, []⟩] (some ⟨w5.heap.size, 0, none⟩) 4 _ (R5.out.alloc _).amb
    (tk_plain _ (heap_alloc_new w5 _) (by decide) (all_plain rfl)) ex_3).mono ?_
  rintro e w6 ⟨rfl, hb1⟩
  have hR6 := (R5.out.alloc _).step hb1
  clear hb1 R2 R3 R4 R5 B1
  go_wp2_with fail
  go_region_held3 (fun w' => w'.cell? ⟨w1.heap.size, 0, none⟩ = some (.int .i64 5) ∧ w'.cell? ⟨w1.heap.size, 1, none⟩ = some (.int .i64 16) ∧ w'.cell? ⟨w1.heap.size, 2, none⟩ = some (.int .i64 7) ∧ w'.cell? ⟨w1.heap.size, 3, none⟩ = some (.string ⟨#[]⟩) ∧ w'.cell? ⟨w1.heap.size, 4, none⟩ = some (.int .i64 0) ∧ w'.cell? ⟨w1.heap.size, 5, none⟩ = some (.slice (some ⟨w1.heap.size + 1, 0, none⟩) 2 2) ∧ ApR w ⟨5, 16, 7, [], 0, [97, 65]⟩ w1.heap.size (some ⟨w1.heap.size + 1, 0, none⟩) 2 w')
    (first | (exact ap_six hR6.drew) | (exact ap_six (by (go_split_ands; assumption))) | (exact ap_six (ApR.alloc (by (go_split_ands; assumption)) _)))
    (first
      | (go_at_call 27; refine (of_calls _ _ _ _ _ _).mono ?_; rintro e w' ⟨rfl, hb⟩; go_split_ands; have hR2 : ApR w ⟨5, 16, 7, [], 0, [97, 65]⟩ w1.heap.size (some ⟨w1.heap.size + 1, 0, none⟩) 2 w' := ApR.step (by assumption) hb; clear hb)
      | (go_at_call 12; refine (at_calls _ _ _ _ _ _ _ _ _ _).mono ?_; rintro e w' ⟨rfl, hb⟩; go_split_ands; have hR2 : ApR w ⟨5, 16, 7, [], 0, [97, 65]⟩ w1.heap.size (some ⟨w1.heap.size + 1, 0, none⟩) 2 w' := ApR.step (by assumption) hb; clear hb)
      | (go_at_call 15; go_split_ands; refine (scans_ok _ [⟨3, 0, 5, [117, 108], 15, []⟩, ⟨4, 6, 3, [], 97, []⟩, ⟨4, 10, 4, [], 10, []⟩, ⟨5, 15, 7, [], 0, [97, 65]⟩] _ 4 _ (ApR.amb (by assumption)) (tk_known (by assumption)) ex_4).mono ?_; rintro e w' ⟨rfl, hb⟩; have hR2 : ApR w ⟨5, 16, 7, [], 0, [97, 65]⟩ w1.heap.size (some ⟨w1.heap.size + 1, 0, none⟩) 2 w' := ApR.step (by assumption) hb; clear hb))
  go_split_ands
  have R7 := Lib.hid (show ApR w ⟨5, 16, 7, [], 0, [97, 65]⟩ w1.heap.size (some ⟨w1.heap.size + 1, 0, none⟩) 2 _ by assumption)
  go_wp2_with fail
  refine (fails_calls _ _ _ _ R7.out.amb ex_5).mono ?_
  rintro e w8 ⟨rfl, hb1⟩
  have R8 := Lib.hid (R7.out.step hb1)
  clear hb1 R7
  go_wp2_with fail
  refine (fails_calls _ _ _ _ R8.out.amb ex_6).mono ?_
  rintro e w9 ⟨rfl, hb1⟩
  have R9 := Lib.hid (R8.out.step hb1)
  clear hb1 R8
  go_wp2_with fail
  refine (fails_calls _ _ _ _ R9.out.amb ex_7).mono ?_
  rintro e w10 ⟨rfl, hb1⟩
  have R10 := Lib.hid (R9.out.step hb1)
  clear hb1 R9
  go_wp2_with fail
  refine (fails_calls _ _ _ _ R10.out.amb ex_8).mono ?_
  rintro e w11 ⟨rfl, hb1⟩
  have R11 := Lib.hid (R10.out.step hb1)
  clear hb1 R10
  go_wp2_with fail
  refine (fails_calls _ _ _ _ R11.out.amb ex_9).mono ?_
  rintro e w12 ⟨rfl, hb1⟩
  have R12 := Lib.hid (R11.out.step hb1)
  clear hb1 R11
  go_wp2_with fail
  refine (line_known _).mono ?_
  rintro e w' ⟨rfl, rfl⟩
  go_wp2_with fail
  refine (awake_calls _ R12.out.amb).mono ?_
  rintro e w13 ⟨rfl, hb1⟩
  have R13 := Lib.hid (R12.out.step hb1)
  clear hb1 R12
  go_wp2_with fail
  refine (sign_calls _ _ R13.out.amb.sp).mono ?_
  rintro e w14 ⟨rfl, hb1⟩
  rw [show signLen (ByteArray.data _).toList = 3 from by decide]
  have R14 := Lib.hid (R13.out.step hb1)
  clear hb1 R13
  go_wp2_with fail
  refine (sign_calls _ _ R14.out.amb.sp).mono ?_
  rintro e w15 ⟨rfl, hb1⟩
  rw [show signLen (ByteArray.data _).toList = 0 from by decide]
  have R15 := Lib.hid (R14.out.step hb1)
  clear hb1 R14
  go_wp2_with fail
  refine (key_calls _ _ R15.out.amb.sp).mono ?_
  rintro e w16 ⟨rfl, hb1⟩
  rw [show isKey (ByteArray.data _).toList = true from by decide]
  have R16 := Lib.hid (R15.out.step hb1)
  clear hb1 R15
  go_wp2_with fail
  refine (key_calls _ _ R16.out.amb.sp).mono ?_
  rintro e w17 ⟨rfl, hb1⟩
  rw [show isKey (ByteArray.data _).toList = false from by decide]
  have R17 := Lib.hid (R16.out.step hb1)
  clear hb1 R16
  go_wp2
  go_ret
  exact ⟨rfl, R17.out.below⟩
end Go.Proofs.YtnhmgjochmollaaGreatDoor

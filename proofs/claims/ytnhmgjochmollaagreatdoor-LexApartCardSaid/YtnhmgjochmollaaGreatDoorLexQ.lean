/- Contracts of the kit's comparisons of tokens, and of the law's helpers of and at. Conditions: the slices are read. -/
import Derived.Test.YtnhmgjochmollaaGreatDoorLexP
namespace Go.Proofs.YtnhmgjochmollaaGreatDoor
open Go.RowKit Go.Proofs.YtnhmgjochmollaaGreatDoorW.PrintWords
set_option linter.unusedSimpArgs false
set_option linter.unusedVariables false

theorem strOf (bs : List UInt8) : strOfNums (bs.map fun c => (c.toNat : Int)) = ⟨bs.toArray⟩ := by
  apply ba_ext
  simp only [strOfNums, List.map_map]
  have : (fun n : Int => UInt8.ofNat n.toNat) ∘ (fun c : UInt8 => (c.toNat : Int)) = id := by
    funext c
    simp
  simp [this]
theorem bytes_conv {w : World} {A : Option Addr} {n c : Nat} {bs : List UInt8} (h : byteK.C w A n bs) : (convert 31 9 (.slice A n c)).run Tryz.prog w = .ok (.string ⟨bs.toArray⟩) w := by
  have h1 : ReadsOf encU (0 : UInt8) w A n bs := Kd.reads_of_C (enc := encU) (d := (0 : UInt8)) (h1 := fun _ => rfl) h
  have h2 : ReadsInt w .u8 A n (bs.map fun c => (c.toNat : Int)) := by
    refine ⟨by rw [List.length_map]; exact h1.1, h1.2.1, fun hn => ?_⟩
    obtain ⟨ad, e, hc⟩ := h1.2.2 hn
    refine ⟨ad, e, fun j hj => ?_⟩
    rw [hc j hj]
    have hl : j < bs.length := by rw [h1.1]; exact hj
    simp [encU, List.getD_eq_getElem?_getD, List.getElem?_eq_getElem hl]
  rw [← strOf]
  exact string_of_reads (e := 5) (by kernel_rfl) (by kernel_rfl) (by kernel_rfl) h2

theorem sameBytes_calls (A1 A2 : Option Addr) (n1 n2 c1 c2 : Nat) (b1 b2 : List UInt8) (w : World) (h1 : byteK.C w A1 n1 b1) (h2 : byteK.C w A2 n2 b2) :
    Calls Tryz.prog 67 #[.slice A1 n1 c1, .slice A2 n2 c2] w fun e w' => e = .returned (.bool (b1 == b2)) ∧ w = w' := by
  have k1 := bytes_conv (c := c1) h1
  have k2 := bytes_conv (c := c2) h2
  clear h1 h2
  go_enter Tryz.func67, Tryz.ntmps67
  go_wp2
  go_ret
  exact ⟨by simp, rfl⟩

/-- A token's cells in line, as a value. -/
theorem of_calls (k a z n : Int) (x : ByteArray) (w : World) :
    Calls Tryz.prog 27 #[.int .i64 k, .int .i64 a, .int .i64 z, .string x, .int .i64 n] w fun e w' => e = .returned (.agg #[.int .i64 k, .int .i64 a, .int .i64 z, .string x, .int .i64 n, .slice none 0 0]) ∧ Below w.heap.size w w' := by
  go_enter Tryz.func27, Tryz.ntmps27
  go_wp2
  refine bodyPost_ret (v := .agg #[.int .i64 k, .int .i64 a, .int .i64 z, .string x, .int .i64 n, .slice none 0 0]) (tok_result rfl rfl ?_) rfl ⟨rfl, ?_⟩
  · exact heap_alloc_new w _
  · exact (Below.refl _ _).alloc (Nat.le_refl _) _
theorem at_calls (k a z n p : Int) (x : ByteArray) (A : Option Addr) (l c : Nat) (w : World) :
    Calls Tryz.prog 12 #[.agg #[.int .i64 k, .int .i64 a, .int .i64 z, .string x, .int .i64 n, .slice A l c], .int .i64 p] w fun e w' => e = .returned (.agg #[.int .i64 k, .int .i64 p, .int .i64 z, .string x, .int .i64 n, .slice A l c]) ∧ Below w.heap.size w w' := by
  go_enter Tryz.func12, Tryz.ntmps12
  go_wp2
  refine bodyPost_ret (v := .agg #[.int .i64 k, .int .i64 p, .int .i64 z, .string x, .int .i64 n, .slice A l c]) (tok_result rfl rfl ?_) rfl ⟨rfl, ?_⟩
  · exact heap_two _ _ _
  · exact ((Below.refl _ _).alloc (Nat.le_refl _) _).alloc (by simp) _

theorem tok_eq (t u : Tok) : (t == u) = (t.kind == u.kind && (t.at_ == u.at_ && (t.size == u.size && (t.text == u.text && (t.n == u.n && t.bytes == u.bytes))))) := by
  obtain ⟨k1, a1, z1, x1, n1, b1⟩ := t
  obtain ⟨k2, a2, z2, x2, n2, b2⟩ := u
  rw [Bool.eq_iff_iff]
  simp

set_option maxHeartbeats 400000 in
theorem sameToken_calls (t u : Tok) (A1 A2 : Option Addr) (c1 c2 : Nat) (w : World) (h1 : byteK.C w A1 t.bytes.length t.bytes) (h2 : byteK.C w A2 u.bytes.length u.bytes) :
    Calls Tryz.prog 31 #[tokVal t (.slice A1 t.bytes.length c1), tokVal u (.slice A2 u.bytes.length c2)] w fun e w' => e = .returned (.bool (t == u)) ∧ Below w.heap.size w w' := by
  rw [tok_eq]
  obtain ⟨k1, a1, z1, x1, n1, b1⟩ := t
  obtain ⟨k2, a2, z2, x2, n2, b2⟩ := u
  unfold tokVal
  simp only at h1 h2 ⊢
  have H1 := Lib.hid h1
  have H2 := Lib.hid h2
  clear h1 h2
  cases h0 : (k1 == k2)
  · simp only [Bool.false_and, Bool.true_and]
    go_enter Tryz.func31, Tryz.ntmps31
    go_wp2
    go_ret
    exact ⟨rfl, ((Below.refl _ _).alloc (Nat.le_refl _) _).alloc (by simp) _⟩
  · skip
    cases h1 : (a1 == a2)
    · simp only [Bool.false_and, Bool.true_and]
      go_enter Tryz.func31, Tryz.ntmps31
      go_wp2
      go_ret
      exact ⟨rfl, ((Below.refl _ _).alloc (Nat.le_refl _) _).alloc (by simp) _⟩
    · skip
      cases h2 : (z1 == z2)
      · simp only [Bool.false_and, Bool.true_and]
        go_enter Tryz.func31, Tryz.ntmps31
        go_wp2
        go_ret
        exact ⟨rfl, ((Below.refl _ _).alloc (Nat.le_refl _) _).alloc (by simp) _⟩
      · skip
        cases h3 : (x1 == x2)
        · simp only [Bool.false_and, Bool.true_and]
          go_enter Tryz.func31, Tryz.ntmps31
          go_wp2
          go_ret
          exact ⟨rfl, ((Below.refl _ _).alloc (Nat.le_refl _) _).alloc (by simp) _⟩
        · skip
          cases h4 : (n1 == n2)
          · simp only [Bool.false_and, Bool.true_and]
            go_enter Tryz.func31, Tryz.ntmps31
            go_wp2
            go_ret
            exact ⟨rfl, ((Below.refl _ _).alloc (Nat.le_refl _) _).alloc (by simp) _⟩
          · skip
            simp only [Bool.true_and]
            go_enter Tryz.func31, Tryz.ntmps31
            go_wp2_with fail
            refine (sameBytes_calls A1 A2 _ _ c1 c2 b1 b2 _ (Kd.C_below H1.out (((Below.refl _ _).alloc (Nat.le_refl _) _).alloc (by simp) _)) (Kd.C_below H2.out (((Below.refl _ _).alloc (Nat.le_refl _) _).alloc (by simp) _))).mono ?_
            rintro e' w' ⟨rfl, rfl⟩
            go_wp2
            go_ret
            exact ⟨rfl, ((Below.refl _ _).alloc (Nat.le_refl _) _).alloc (by simp) _⟩
end Go.Proofs.YtnhmgjochmollaaGreatDoor

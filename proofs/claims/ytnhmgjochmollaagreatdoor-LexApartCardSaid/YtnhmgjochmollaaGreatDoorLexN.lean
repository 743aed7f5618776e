/- Contract of lex's choice of a reader: the reader that stands for a place, and what it hands back. Conditions: the scan's block with nothing wrong yet, a place within a source of at most 4000 bytes; what the library's variables hold (Amb). -/
import Derived.Test.YtnhmgjochmollaaGreatDoorLexM
namespace Go.Proofs.YtnhmgjochmollaaGreatDoor
open Go.RowKit Go.Proofs.YtnhmgjochmollaaGreatDoorW.PrintWords
set_option linter.unusedSimpArgs false
set_option linter.unusedVariables false

/-- F is who reads at the place k. -/
def Reader (g k : Nat) (s : ByteArray) (w : World) (F : Nat) : Prop :=
  (∀ args W, (callFunc F args).run Tryz.prog W = .ok (.enter F args) W) ∧ Calls Tryz.prog F #[.pointer (some ⟨g, 0, none⟩), .int .i64 k] w (ReadPost g s w (readS s.size (s.data.toList.drop k)))
def ReadsPost (g k : Nat) (s : ByteArray) (w : World) (e' : Ending) (w' : World) : Prop :=
  ∃ F, e' = .returned (.func (.func F) #[.pointer (some ⟨g, 0, none⟩)] #[]) ∧ w' = w ∧ Reader g k s w F

theorem dig_not_let (c : Int) (h : digB c = true) : letB c = false := by
  simp [digB, letB] at h ⊢
  omega
theorem dig_part (c : Int) (h : digB c = true) : partB c = true := by simp [partB, h]
theorem at_eq (s : ByteArray) (k : Nat) (h : k < s.size) : (s.size : Int) - (s.data.toList.drop k).length = k := by simp; omega

theorem readS_word (n : Nat) (c : UInt8) (l : List UInt8) (h : letB (c.toNat : Int) = true) : readS n (c :: l) = .ok ⟨if isKey ((c :: l).take (runLen (c :: l))) then 2 else 1, n - (c :: l).length, runLen (c :: l), (c :: l).take (runLen (c :: l)), 0, []⟩ := by
  unfold readS
  simp only [h, if_true]
theorem readS_number (n : Nat) (c : UInt8) (l : List UInt8) (h : digB (c.toNat : Int) = true) : readS n (c :: l) = numberS (n - (c :: l).length) ((c :: l).take (runLen (c :: l))) := by
  unfold readS numberS
  simp only [h, dig_not_let _ h, if_true]
  have hl : (((c :: l).take (runLen (c :: l))).length : Int) = runLen (c :: l) := by
    rw [List.length_take, Nat.min_eq_left (runLen_le _)]
  rw [hl]
  rfl
theorem readS_quoted (n : Nat) (c : UInt8) (l : List UInt8) (h : c = 39 ∨ c = 34) : readS n (c :: l) = quotedR n (n - (c :: l).length) c l := by
  have h1 : letB (c.toNat : Int) = false := by rcases h with rfl | rfl <;> decide
  have h2 : digB (c.toNat : Int) = false := by rcases h with rfl | rfl <;> decide
  unfold readS quotedR
  simp only [h1, h2, if_pos h]
  rfl
theorem readS_sign (n : Nat) (c : UInt8) (l : List UInt8) (h1 : letB (c.toNat : Int) = false) (h2 : digB (c.toNat : Int) = false) (h : ¬(c = 39 ∨ c = 34)) :
    readS n (c :: l) = if signLen (c :: l) = 0 then .error (10, n - (c :: l).length) else .ok ⟨6, n - (c :: l).length, signLen (c :: l), (c :: l).take (signLen (c :: l)), 0, []⟩ := by
  unfold readS
  simp only [h1, h2, if_neg h]
  rfl

set_option maxHeartbeats 400000 in
theorem reads_calls (g k : Nat) (s : ByteArray) (p : Int) (w : World) (hS : ScanAt w g s 0 p) (hA : Amb w) (hs : s.size ≤ 4000) (h1 : k < s.size) (hgl : gN ≤ g) :
    Calls Tryz.prog 30 #[.pointer (some ⟨g, 0, none⟩), .int .i64 k] w (ReadsPost g k s w) := by
  have hc := hS.c0
  have hd : s.data.toList.drop k = s[k]'h1 :: s.data.toList.drop (k + 1) := List.drop_eq_getElem_cons (by simpa using h1)
  have ha := at_eq s k h1
  cases hL : letB ((s[k]'h1).toNat : Int)
  · cases hD : digB ((s[k]'h1).toNat : Int)
    · by_cases hq : s[k]'h1 = 39 ∨ s[k]'h1 = 34
      · have hR : Reader g k s w 65 := by
          refine ⟨fun args W => by go_simp, ?_⟩
          have := readS_quoted s.size _ (s.data.toList.drop (k + 1)) hq
          rw [← hd, ha] at this
          rw [this]
          exact quoted_calls g k s p w hS hA hs h1
        have R := Lib.hid hR
        have HL := Lib.hid hL
        have HD := Lib.hid hD
        clear hS hA hR hd ha hL hD
        rcases hq with hq | hq
        · have h39 : (((s[k]'h1).toNat : Int) == 39) = true := by rw [hq]; rfl
          clear hq
          go_enter Tryz.func30, Tryz.ntmps30
          go_wp2_with fail
          refine (letter_calls _ _).mono ?_
          rintro e' w1 ⟨rfl, rfl⟩
          rw [HL.out]
          go_wp2_with fail
          refine (digit_calls _ _).mono ?_
          rintro e' w1 ⟨rfl, rfl⟩
          rw [HD.out]
          go_wp2_with fail
          go_ret
          exact ⟨_, rfl, rfl, R.out⟩
        · have h39 : (((s[k]'h1).toNat : Int) == 39) = false := by rw [hq]; rfl
          have h34 : (((s[k]'h1).toNat : Int) == 34) = true := by rw [hq]; rfl
          clear hq
          go_enter Tryz.func30, Tryz.ntmps30
          go_wp2_with fail
          refine (letter_calls _ _).mono ?_
          rintro e' w1 ⟨rfl, rfl⟩
          rw [HL.out]
          go_wp2_with fail
          refine (digit_calls _ _).mono ?_
          rintro e' w1 ⟨rfl, rfl⟩
          rw [HD.out]
          go_wp2_with fail
          go_ret
          exact ⟨_, rfl, rfl, R.out⟩
      · have hR : Reader g k s w 66 := by
          refine ⟨fun args W => by go_simp, ?_⟩
          have := readS_sign s.size _ (s.data.toList.drop (k + 1)) hL hD hq
          rw [← hd, ha] at this
          rw [this]
          by_cases h0 : signLen (s.data.toList.drop k) = 0
          · rw [if_pos h0]
            refine (sign_bad g k s p w hS hA hs h1 h0).mono ?_
            rintro e' w' ⟨⟨k', n, z, x, rfl⟩, h2, h3⟩
            exact ⟨⟨_, _, _, _, _, _, _, _, rfl⟩, h2, h3⟩
          · rw [if_neg h0]
            refine (sign_ok g k s 0 p w hS hA hs h1 h0).mono ?_
            rintro e' w' ⟨rfl, h2⟩
            exact ⟨⟨_, rfl, World.ownsRow_nil _ _ _ _⟩, h2⟩
        have h39 : (((s[k]'h1).toNat : Int) == 39) = false := beq_eq_false_iff_ne.2 (fun h => hq (.inl (UInt8.toNat_inj.1 (by show (s[k]'h1).toNat = 39; omega))))
        have h34 : (((s[k]'h1).toNat : Int) == 34) = false := beq_eq_false_iff_ne.2 (fun h => hq (.inr (UInt8.toNat_inj.1 (by show (s[k]'h1).toNat = 34; omega))))
        have R := Lib.hid hR
        have HL := Lib.hid hL
        have HD := Lib.hid hD
        clear hS hA hR hd ha hL hD hq
        go_enter Tryz.func30, Tryz.ntmps30
        go_wp2_with fail
        refine (letter_calls _ _).mono ?_
        rintro e' w1 ⟨rfl, rfl⟩
        rw [HL.out]
        go_wp2_with fail
        refine (digit_calls _ _).mono ?_
        rintro e' w1 ⟨rfl, rfl⟩
        rw [HD.out]
        go_wp2_with fail
        go_ret
        exact ⟨_, rfl, rfl, R.out⟩
    · have hR : Reader g k s w 64 := by
        refine ⟨fun args W => by go_simp, ?_⟩
        have := readS_number s.size _ (s.data.toList.drop (k + 1)) hD
        rw [← hd, ha] at this
        rw [this]
        exact number_calls g k s p w hS hA hs h1 (dig_part _ hD) hgl
      have R := Lib.hid hR
      have HL := Lib.hid hL
      have HD := Lib.hid hD
      clear hS hA hR hd ha hL hD
      go_enter Tryz.func30, Tryz.ntmps30
      go_wp2_with fail
      refine (letter_calls _ _).mono ?_
      rintro e' w1 ⟨rfl, rfl⟩
      rw [HL.out]
      go_wp2_with fail
      refine (digit_calls _ _).mono ?_
      rintro e' w1 ⟨rfl, rfl⟩
      rw [HD.out]
      go_wp2_with fail
      go_ret
      exact ⟨_, rfl, rfl, R.out⟩
  · have hR : Reader g k s w 62 := by
      refine ⟨fun args W => by go_simp, ?_⟩
      have := readS_word s.size _ (s.data.toList.drop (k + 1)) hL
      rw [← hd, ha] at this
      rw [this]
      refine (word_calls g k s 0 p w hS hA hs h1).mono ?_
      rintro e' w' ⟨rfl, h2⟩
      exact ⟨⟨_, rfl, World.ownsRow_nil _ _ _ _⟩, h2⟩
    have R := Lib.hid hR
    have HL := Lib.hid hL
    clear hS hA hR hd ha hL
    go_enter Tryz.func30, Tryz.ntmps30
    go_wp2_with fail
    refine (letter_calls _ _).mono ?_
    rintro e' w1 ⟨rfl, rfl⟩
    rw [HL.out]
    go_wp2_with fail
    go_ret
    exact ⟨_, rfl, rfl, R.out⟩
end Go.Proofs.YtnhmgjochmollaaGreatDoor

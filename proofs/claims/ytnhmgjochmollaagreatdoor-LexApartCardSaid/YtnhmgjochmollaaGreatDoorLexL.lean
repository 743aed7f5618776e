/- Contract of lex's skipping of what is between tokens. Conditions: the scan's block with nothing wrong yet, a place within a source of at most 4000 bytes; what the library's variables hold (Amb). -/
import Derived.Test.YtnhmgjochmollaaGreatDoorLexK
namespace Go.Proofs.YtnhmgjochmollaaGreatDoor
open Go.RowKit
set_option linter.unusedSimpArgs false
set_option linter.unusedVariables false

def SkipPost (g : Nat) (s : ByteArray) (w : World) (r : Bool × List UInt8) (e' : Ending) (w' : World) : Prop :=
  e' = .returned (.int .i64 (s.size - r.2.length : Nat)) ∧ match r.1 with
  | true => w' = w
  | false => ScanAt w' g s 4 (s.size - r.2.length : Nat) ∧ w.grownBy w' (some g)

theorem ix_pos (l : List UInt8) (c : UInt8) : Lib.indexByte l c < l.length := by
  induction l with
  | nil => simp [Lib.indexByte]
  | cons a l ih =>
    unfold Lib.indexByte
    split
    · simp
    · split
      · simp; omega
      · simp; omega
theorem u8_back (c : UInt8) : ((c.toNat : Int)).toNat.toUInt8 = c := by simp

theorem index_fits (l sub : List UInt8) (h : 0 ≤ Lib.index l sub) : Lib.index l sub + sub.length ≤ l.length := by
  induction l with
  | nil =>
    unfold Lib.index at h ⊢
    split
    · simp_all
    · rename_i hn; rw [if_neg hn] at h; omega
  | cons a l ih =>
    unfold Lib.index at h ⊢
    split
    · rename_i hp
      have := (List.isPrefixOf_iff_prefix.1 hp).length_le
      simp at this ⊢
      omega
    · rename_i hp
      rw [if_neg hp] at h
      split
      · rename_i hq; rw [if_pos hq] at h; omega
      · rename_i hq
        rw [if_neg hq] at h
        have := ih (by have := Lib.index_ge l sub; have : Lib.index l sub ≠ -1 := fun e => hq (by rw [e]; rfl); omega)
        simp
        omega
theorem skip_blank (f : Nat) (c : UInt8) (l : List UInt8) (h : 0 ≤ Lib.indexByte [9, 10, 13, 32] c) : skipS (f + 1) (c :: l) = skipS f l := if_pos h
theorem skip_line (f : Nat) (c : UInt8) (l : List UInt8) (h : Lib.indexByte [9, 10, 13, 32] c < 0) (h1 : Lib.hasPrefix (c :: l) [47, 47] = true) :
    skipS (f + 1) (c :: l) = skipS f (if Lib.indexByte (c :: l) 10 < 0 then [] else (c :: l).drop (Lib.indexByte (c :: l) 10).toNat) := by
  rw [skipS, if_neg (by omega), if_pos h1]
theorem skip_block (f : Nat) (c : UInt8) (l : List UInt8) (h : Lib.indexByte [9, 10, 13, 32] c < 0) (h1 : Lib.hasPrefix (c :: l) [47, 47] = false) (h2 : Lib.hasPrefix (c :: l) [47, 42] = true) :
    skipS (f + 1) (c :: l) = if Lib.index ((c :: l).drop 2) [42, 47] < 0 then (false, c :: l) else skipS f ((c :: l).drop ((Lib.index ((c :: l).drop 2) [42, 47]).toNat + 4)) := by
  rw [skipS, if_neg (by omega), if_neg (by rw [h1]; simp), if_pos h2]
theorem skip_here (f : Nat) (c : UInt8) (l : List UInt8) (h : Lib.indexByte [9, 10, 13, 32] c < 0) (h1 : Lib.hasPrefix (c :: l) [47, 47] = false) (h2 : Lib.hasPrefix (c :: l) [47, 42] = false) : skipS (f + 1) (c :: l) = (true, c :: l) := by
  rw [skipS, if_neg (by omega), if_neg (by rw [h1]; simp), if_neg (by rw [h2]; simp)]
theorem toList_one (s : ByteArray) (h : 0 < s.size) : s.data.toList = s[0] :: s.data.toList.drop 1 :=
  List.drop_eq_getElem_cons (l := s.data.toList) (i := 0) (by simpa using h)

set_option maxHeartbeats 1000000 in
theorem skip_calls (g a F : Nat) (s : ByteArray) (p : Int) (w : World) (hS : ScanAt w g s 0 p) (hA : Amb w) (hs : s.size ≤ 4000) (h1 : a ≤ s.size) (hF : s.size - a < F) :
    Calls Tryz.prog 29 #[.pointer (some ⟨g, 0, none⟩), .int .i64 a] w (SkipPost g s w (skipS F (s.data.toList.drop a))) := by
  have hc0 := hS.c0
  have hc1 := hS.c1
  have S := Lib.hid hS
  obtain ⟨m, hm⟩ := hA.mx
  have M := Lib.hid hm
  clear hS hA hm
  obtain ⟨R, hR⟩ : ∃ R, R = skipS F (s.data.toList.drop a) := ⟨_, rfl⟩
  rw [← hR]
  have HR := Lib.hid hR
  clear hR
  go_enter Tryz.func29, Tryz.ntmps29
  go_wp2
  go_loop [1] (fun t => ∃ k : Nat, k ≤ s.size ∧ t = .int .i64 k ∧ Hid (∃ f, s.size - k < f ∧ R = skipS f (s.data.toList.drop k))) (fun t => s.size - (intOf t).toNat)
  case atStart => exact ⟨a, h1, rfl, F, hF, HR.out⟩
  case round =>
    obtain ⟨k, hk, rfl, H⟩ := hrel
    by_cases hlt : k < s.size
    · obtain ⟨x, hx⟩ : ∃ x : ByteArray, x = s.extract k s.size := ⟨_, rfl⟩
      have hxl : x.data.toList = s.data.toList.drop k := by rw [hx, Lib.extract_to_end]
      have hxz : x.size = s.size - k := by have := congrArg List.length hxl; simpa using this
      have hx0 : 0 < x.size := by omega
      have hcl := toList_one x hx0
      obtain ⟨f, hf, hRf⟩ := H.out
      obtain ⟨f, rfl⟩ : ∃ f', f = f' + 1 := ⟨f - 1, by omega⟩
      obtain ⟨c, hc⟩ : ∃ c, c = x[0] := ⟨_, rfl⟩
      obtain ⟨l, hl⟩ : ∃ l, l = x.data.toList.drop 1 := ⟨_, rfl⟩
      rw [← hc, ← hl] at hcl
      rw [← hxl, hcl] at hRf
      obtain ⟨v1, hv1⟩ : ∃ v1, v1 = Lib.indexByte [9, 10, 13, 32] c := ⟨_, rfl⟩
      have HX := Lib.hid hx
      have HXL := Lib.hid hxl
      have HC := Lib.hid hc
      have HCL := Lib.hid hcl
      have HV1 := Lib.hid hv1
      have HF := Lib.hid hf
      have HRF := Lib.hid hRf
      clear hx hxl hc hl hcl hv1 hf hRf H
      rcases Int.lt_or_le v1 0 with hv | hv
      · cases hp1 : Lib.hasPrefix (c :: l) [47, 47]
        · cases hp2 : Lib.hasPrefix (c :: l) [47, 42]
          · have P1 := Lib.hid hp1
            have P2 := Lib.hid hp2
            clear hp1 hp2
            go_wp2_with fail
            refine (rest_calls g s k _ hc0 (by omega) (by omega)).mono ?_
            rintro e' w1 ⟨rfl, rfl⟩
            rw [show (k : Int).toNat = k from rfl, ← HX.out]
            go_wp2_with fail
            refine (Tryz.strings_IndexByte _ _ _).mono ?_
            rintro e' w1 ⟨rfl, rfl⟩
            rw [← HC.out, u8_back, show (ByteArray.mk #[9, 10, 13, 32]).data.toList = [9, 10, 13, 32] from rfl, ← HV1.out]
            go_wp2_with fail
            refine (Tryz.strings_HasPrefix _ _ _).mono ?_
            rintro e' w1 ⟨rfl, rfl⟩
            rw [HCL.out, show (ByteArray.mk #[47, 47]).data.toList = [47, 47] from rfl, P1.out]
            go_wp2_with fail
            refine (Tryz.strings_HasPrefix _ _ _).mono ?_
            rintro e' w1 ⟨rfl, rfl⟩
            rw [HCL.out, show (ByteArray.mk #[47, 42]).data.toList = [47, 42] from rfl, P2.out]
            go_wp2
            go_ret
            have hR : R = (true, c :: l) := HRF.out.trans (skip_here f c l (by rw [← HV1.out]; exact hv) P1.out P2.out)
            rw [hR]
            have := HCL.out.symm.trans HXL.out
            refine ⟨?_, rfl⟩
            rw [this]
            simp
            omega
          · have P1 := Lib.hid hp1
            have P2 := Lib.hid hp2
            have h2 : 2 ≤ x.size := by
              have := (List.isPrefixOf_iff_prefix.1 hp2).length_le
              have e := congrArg List.length HCL.out
              simp at this e
              omega
            clear hp1 hp2
            obtain ⟨v3, hv3⟩ : ∃ v3, v3 = Lib.index ((c :: l).drop 2) [42, 47] := ⟨_, rfl⟩
            have hb3 : 0 ≤ v3 → v3 + 4 ≤ x.size := by
              intro h
              have := index_fits ((c :: l).drop 2) [42, 47] (by rw [← hv3]; exact h)
              rw [← hv3] at this
              have e := congrArg List.length HCL.out
              simp at this e
              omega
            have HV3 := Lib.hid hv3
            clear hv3
            rcases Int.lt_or_le v3 0 with hw3 | hw3
            · go_wp2_with fail
              refine (rest_calls g s k _ hc0 (by omega) (by omega)).mono ?_
              rintro e' w1 ⟨rfl, rfl⟩
              rw [show (k : Int).toNat = k from rfl, ← HX.out]
              go_wp2_with fail
              refine (Tryz.strings_IndexByte _ _ _).mono ?_
              rintro e' w1 ⟨rfl, rfl⟩
              rw [← HC.out, u8_back, show (ByteArray.mk #[9, 10, 13, 32]).data.toList = [9, 10, 13, 32] from rfl, ← HV1.out]
              go_wp2_with fail
              refine (Tryz.strings_HasPrefix _ _ _).mono ?_
              rintro e' w1 ⟨rfl, rfl⟩
              rw [HCL.out, show (ByteArray.mk #[47, 47]).data.toList = [47, 47] from rfl, P1.out]
              go_wp2_with fail
              refine (Tryz.strings_HasPrefix _ _ _).mono ?_
              rintro e' w1 ⟨rfl, rfl⟩
              rw [HCL.out, show (ByteArray.mk #[47, 42]).data.toList = [47, 42] from rfl, P2.out]
              go_wp2_with fail
              refine (Tryz.strings_Index _ _ m _ (by simp; omega) M.out).mono ?_
              rintro e' w1 ⟨rfl, rfl⟩
              rw [← hxz, Lib.extract_to_end, HCL.out, show (ByteArray.mk #[42, 47]).data.toList = [42, 47] from rfl, ← HV3.out]
              go_wp2_with fail
              refine (fails_first g s 0 p 4 k _ S.out rfl).mono ?_
              rintro e' w4 ⟨rfl, hS4, hg4⟩
              have S4 := Lib.hid hS4
              have G4 := Lib.hid hg4
              clear hS4 hg4
              go_wp2
              go_ret
              have hR : R = (false, c :: l) := (HRF.out.trans (skip_block f c l (by rw [← HV1.out]; exact hv) P1.out P2.out)).trans (if_pos (by rw [← HV3.out]; exact hw3))
              rw [hR]
              have e1 := HCL.out.symm.trans HXL.out
              have e2 : s.size - (c :: l).length = k := by rw [e1]; simp; omega
              unfold SkipPost
              simp only
              rw [e2]
              exact ⟨rfl, S4.out, G4.out⟩
            · have hb := hb3 hw3
              clear hb3
              go_wp2_with fail
              refine (rest_calls g s k _ hc0 (by omega) (by omega)).mono ?_
              rintro e' w1 ⟨rfl, rfl⟩
              rw [show (k : Int).toNat = k from rfl, ← HX.out]
              go_wp2_with fail
              refine (Tryz.strings_IndexByte _ _ _).mono ?_
              rintro e' w1 ⟨rfl, rfl⟩
              rw [← HC.out, u8_back, show (ByteArray.mk #[9, 10, 13, 32]).data.toList = [9, 10, 13, 32] from rfl, ← HV1.out]
              go_wp2_with fail
              refine (Tryz.strings_HasPrefix _ _ _).mono ?_
              rintro e' w1 ⟨rfl, rfl⟩
              rw [HCL.out, show (ByteArray.mk #[47, 47]).data.toList = [47, 47] from rfl, P1.out]
              go_wp2_with fail
              refine (Tryz.strings_HasPrefix _ _ _).mono ?_
              rintro e' w1 ⟨rfl, rfl⟩
              rw [HCL.out, show (ByteArray.mk #[47, 42]).data.toList = [47, 42] from rfl, P2.out]
              go_wp2_with fail
              refine (Tryz.strings_Index _ _ m _ (by simp; omega) M.out).mono ?_
              rintro e' w1 ⟨rfl, rfl⟩
              rw [← hxz, Lib.extract_to_end, HCL.out, show (ByteArray.mk #[42, 47]).data.toList = [42, 47] from rfl, ← HV3.out]
              go_wp2
              go_round
              case rel =>
                refine ⟨k + (v3.toNat + 4), by omega, by go_num, ?_⟩
                unfold Hid
                refine ⟨f, by have := HF.out; omega, ?_⟩
                rw [HRF.out, skip_block f c l (by rw [← HV1.out]; exact hv) P1.out P2.out, ← HV3.out, if_neg (by omega), ← HCL.out, HXL.out, List.drop_drop]
              case measure => simp [intOf]; omega
        · have P1 := Lib.hid hp1
          obtain ⟨v2, hv2⟩ : ∃ v2, v2 = Lib.indexByte (c :: l) 10 := ⟨_, rfl⟩
          have hb2 : v2 ≠ 0 := by
            intro h
            have h47 : c = 47 := by
              have := List.isPrefixOf_iff_prefix.1 hp1
              obtain ⟨t, ht⟩ := this
              injection ht with h1 h2
              exact h1.symm
            rw [hv2, h47] at h
            unfold Lib.indexByte at h
            rw [if_neg (by decide)] at h
            have := Lib.indexByte_ge l 10
            split at h
            · omega
            · rename_i hq
              have : Lib.indexByte l 10 ≠ -1 := fun e => hq (by rw [e]; rfl)
              omega
          have hb3 : v2 < x.size := by
            have := ix_pos (c :: l) 10
            have e := congrArg List.length HCL.out
            rw [hv2]
            simp at this e ⊢
            omega
          have HV2 := Lib.hid hv2
          clear hp1 hv2
          rcases Int.lt_or_le v2 0 with hw2 | hw2
          · go_wp2_with fail
            refine (rest_calls g s k _ hc0 (by omega) (by omega)).mono ?_
            rintro e' w1 ⟨rfl, rfl⟩
            rw [show (k : Int).toNat = k from rfl, ← HX.out]
            go_wp2_with fail
            refine (Tryz.strings_IndexByte _ _ _).mono ?_
            rintro e' w1 ⟨rfl, rfl⟩
            rw [← HC.out, u8_back, show (ByteArray.mk #[9, 10, 13, 32]).data.toList = [9, 10, 13, 32] from rfl, ← HV1.out]
            go_wp2_with fail
            refine (Tryz.strings_HasPrefix _ _ _).mono ?_
            rintro e' w1 ⟨rfl, rfl⟩
            rw [HCL.out, show (ByteArray.mk #[47, 47]).data.toList = [47, 47] from rfl, P1.out]
            go_wp2_with fail
            refine (Tryz.strings_IndexByte _ _ _).mono ?_
            rintro e' w1 ⟨rfl, rfl⟩
            rw [HCL.out, show (10 : Int).toNat.toUInt8 = 10 from rfl, ← HV2.out]
            go_wp2
            go_round
            case rel =>
              refine ⟨s.size, by omega, by go_num, ?_⟩
              unfold Hid
              refine ⟨f, by have := HF.out; omega, ?_⟩
              rw [HRF.out, skip_line f c l (by rw [← HV1.out]; exact hv) P1.out, ← HV2.out, if_pos hw2]
              congr 1
              simp
            case measure => simp [intOf]; omega
          · go_wp2_with fail
            refine (rest_calls g s k _ hc0 (by omega) (by omega)).mono ?_
            rintro e' w1 ⟨rfl, rfl⟩
            rw [show (k : Int).toNat = k from rfl, ← HX.out]
            go_wp2_with fail
            refine (Tryz.strings_IndexByte _ _ _).mono ?_
            rintro e' w1 ⟨rfl, rfl⟩
            rw [← HC.out, u8_back, show (ByteArray.mk #[9, 10, 13, 32]).data.toList = [9, 10, 13, 32] from rfl, ← HV1.out]
            go_wp2_with fail
            refine (Tryz.strings_HasPrefix _ _ _).mono ?_
            rintro e' w1 ⟨rfl, rfl⟩
            rw [HCL.out, show (ByteArray.mk #[47, 47]).data.toList = [47, 47] from rfl, P1.out]
            go_wp2_with fail
            refine (Tryz.strings_IndexByte _ _ _).mono ?_
            rintro e' w1 ⟨rfl, rfl⟩
            rw [HCL.out, show (10 : Int).toNat.toUInt8 = 10 from rfl, ← HV2.out]
            go_wp2
            go_round
            case rel =>
              refine ⟨k + v2.toNat, by omega, by go_num, ?_⟩
              unfold Hid
              refine ⟨f, by have := HF.out; omega, ?_⟩
              rw [HRF.out, skip_line f c l (by rw [← HV1.out]; exact hv) P1.out, ← HV2.out, if_neg (by omega), ← HCL.out, HXL.out, List.drop_drop]
            case measure => simp [intOf]; omega
      · go_wp2_with fail
        refine (rest_calls g s k _ hc0 (by omega) (by omega)).mono ?_
        rintro e' w1 ⟨rfl, rfl⟩
        rw [show (k : Int).toNat = k from rfl, ← HX.out]
        go_wp2_with fail
        refine (Tryz.strings_IndexByte _ _ _).mono ?_
        rintro e' w1 ⟨rfl, rfl⟩
        rw [← HC.out, u8_back, show (ByteArray.mk #[9, 10, 13, 32]).data.toList = [9, 10, 13, 32] from rfl, ← HV1.out]
        go_wp2
        go_round
        case rel =>
          refine ⟨k + 1, by omega, by go_num, ?_⟩
          unfold Hid
          refine ⟨f, by have := HF.out; omega, ?_⟩
          have e : l = s.data.toList.drop (k + 1) := by
            have := congrArg (List.drop 1) (HCL.out.symm.trans HXL.out)
            rwa [List.drop_drop, List.drop_succ_cons, List.drop_zero] at this
          rw [HRF.out, skip_blank f c l (by rw [← HV1.out]; exact hv), e]
        case measure => simp [intOf]; omega
    · have hke : k = s.size := by omega
      obtain ⟨f, hf, hRf⟩ := H.out
      have HRF := Lib.hid hRf
      clear hRf H
      go_wp2_with fail
      go_ret
      have hR : R = (true, []) := by
        rw [HRF.out, hke, show s.data.toList.drop s.size = [] by simp]
        cases f with
        | zero => rfl
        | succ f => rfl
      rw [hR]
      exact ⟨by simp [hke], rfl⟩
end Go.Proofs.YtnhmgjochmollaaGreatDoor

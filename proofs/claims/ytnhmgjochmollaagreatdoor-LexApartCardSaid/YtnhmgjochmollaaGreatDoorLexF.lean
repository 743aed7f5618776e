/- Contracts of the library's ParseUint at base 8, 10 and 16 (64 bits) and at base 16 (8 bits): every text but the empty one. -/
import Derived.Test.YtnhmgjochmollaaGreatDoorLexE
import Derived.Lib.AtoiAllMem
import Derived.Lib.ParseIntBMem
import Derived.Lib.ConvBytes
import Derived.Laws.Strings3
import Derived.BigCall
import Derived.BigGuard
namespace Go.Proofs.YtnhmgjochmollaaGreatDoor
open Go.RowKit
set_option linter.unusedSimpArgs false
set_option linter.unusedVariables false

/-- A byte's value as a digit; 99: it is none. -/
def dv (c : UInt8) : Nat := if 48 ≤ c.toNat ∧ c.toNat ≤ 57 then c.toNat - 48 else if 97 ≤ (c ||| 32).toNat ∧ (c ||| 32).toNat ≤ 122 then (c ||| 32).toNat - 87 else 99
/-- A number's digits, from left to right; M is the greatest that fits. -/
def pu (b M : Nat) (acc : Nat) : List UInt8 → Lib.NumEnd Nat
  | [] => .ok acc
  | c :: r => if b ≤ dv c then Lib.NumEnd.syntax else if M < acc * b + dv c then .range else pu b M (acc * b + dv c) r
theorem pu_cons (b M acc : Nat) (c : UInt8) (r : List UInt8) : pu b M acc (c :: r) = if b ≤ dv c then Lib.NumEnd.syntax else if M < acc * b + dv c then .range else pu b M (acc * b + dv c) r := rfl
theorem low_bits (c : UInt8) : bits .or .u8 (c.toNat : Int) 32 = ((c ||| 32).toNat : Int) := by
  have h : ∀ k : Fin 256, bits .or .u8 ((UInt8.ofNat k.val).toNat : Int) 32 = ((UInt8.ofNat k.val ||| 32).toNat : Int) := by decide +kernel
  have := h ⟨c.toNat, c.toNat_lt⟩
  simpa using this

set_option maxHeartbeats 32000000 in
set_option maxRecDepth 100000 in
theorem pu_8_64 (t : ByteArray) (hne : t.size ≠ 0) (hmax : t.size ≤ 9223372036854775806) (w : World) :
    Calls Tryz.prog 172 #[.string t, .int .i64 8, .int .i64 64] w fun e w' => e = .returned (Lib.uintTupleM 216 18446744073709551615 (pu 8 18446744073709551615 0 t.data.toList)) ∧ w' = Lib.bytesWorld w 5 t := by
  have hemp : t.toList.isEmpty = false := by
    rw [← decide_eq_emptyBytes]
    exact decide_eq_false (fun h => hne (by rw [h]; rfl))
  have hcv := Lib.run_convert_string_bytes (P := Tryz.prog) w 9 31 5 t (u := .string) Tryz.underlying9 Tryz.underlying31 Tryz.underlying5
  have hB : ∀ j, j < t.size → (Lib.bytesWorld w 5 t).cell? ⟨w.heap.size, j, none⟩ = some (.int .u8 (t.data.toList.getD j 0).toNat) := fun j hj => Lib.bytesWorld_cell w 5 t j hj
  obtain ⟨W1, hW1⟩ : ∃ W1, W1 = Lib.bytesWorld w 5 t := ⟨_, rfl⟩
  rw [← hW1] at hcv hB ⊢
  clear hW1
  obtain ⟨bs, hL⟩ : ∃ bs, bs = t.data.toList := ⟨_, rfl⟩
  have hLn : bs.length = t.size := by rw [hL, Lib.size_eq]
  rw [← hL] at hB ⊢
  clear hL
  have hmv : IntKind.u64.wrap (IntKind.u64.wrap 18446744073709551616 - 1) = 18446744073709551615 := by
    rw [IntKind.wrap_u64, IntKind.wrap_u64]
    decide
  go_enter Tryz.func172, Tryz.ntmps172
  go_wp2
  go_loop [12, 13, 101] (fun vu vn vi => ∃ (k acc : Nat) (a : Int), vu = .bool false ∧ vn = .int .u64 a ∧ vi = .int .i64 k ∧ k ≤ t.size ∧ Hid (a = (acc : Int) ∧ acc ≤ 18446744073709551615 ∧ pu 8 18446744073709551615 0 bs = pu 8 18446744073709551615 acc (bs.drop k)))
    (fun _ _ vi => t.size - (intOf vi).toNat)
  case atStart => exact ⟨0, 0, 0, rfl, rfl, rfl, by omega, rfl, by omega, rfl⟩
  case round =>
    obtain ⟨k, acc, a, rfl, rfl, rfl, hk, hh⟩ := hrel
    obtain ⟨ha, hacc, hdec⟩ := hh.out
    clear hh
    have a0 : 0 ≤ a := by omega
    have a1 : a ≤ 18446744073709551615 := by omega
    by_cases hkn : k < t.size
    · have hc := hB k hkn
      have hdrop : bs.drop k = bs[k]'(by omega) :: bs.drop (k + 1) := List.drop_eq_getElem_cons (by omega)
      have hget : bs.getD k 0 = bs[k]'(by omega) := by simp [List.getD, List.getElem?_eq_getElem (show k < bs.length by omega)]
      rw [hdrop] at hdec
      rw [hget] at hc
      generalize bs[k]'(by omega) = c at hc hdec
      have hc256 : c.toNat < 256 := c.toNat_lt
      have hl256 : (c ||| 32).toNat < 256 := (c ||| 32).toNat_lt
      have hlow := low_bits c
      rw [pu_cons] at hdec
      have hdv : dv c = if 48 ≤ c.toNat ∧ c.toNat ≤ 57 then c.toNat - 48 else if 97 ≤ (c ||| 32).toNat ∧ (c ||| 32).toNat ≤ 122 then (c ||| 32).toNat - 87 else 99 := rfl
      have h95 : c.toNat = 95 → (c ||| 32).toNat = 127 := fun h => by rw [show c = 95 from UInt8.toNat_inj.1 h]; rfl
      obtain ⟨lv, hlv⟩ : ∃ lv : Nat, lv = (c ||| 32).toNat := ⟨_, rfl⟩
      rw [← hlv] at hlow hdv hl256 h95
      clear hlv hB hdrop hget
      have HL := Lib.hid hlow
      clear hlow
      obtain ⟨d, hd⟩ : ∃ d, d = dv c := ⟨_, rfl⟩
      rw [← hd] at hdv hdec
      clear hd
      by_cases hdig : 48 ≤ c.toNat ∧ c.toNat ≤ 57
      · rw [if_pos hdig] at hdv
        obtain ⟨hd0, hd1⟩ := hdig
        clear h95
        by_cases hbd : 8 ≤ d
        · rw [if_pos hbd] at hdec
          have iw : (8 : Int) ≤ (c.toNat : Int) - 48 := by omega
          have HD := Lib.hid hdec
          clear hdec hdv ha hacc hbd
          go_wp2
          all_goals (go_ret2; exact ⟨by rw [HD.out]; rfl, rfl⟩)
        · rw [if_neg hbd] at hdec
          have iw : (c.toNat : Int) - 48 < 8 := by omega
          by_cases hcut : 2305843009213693952 ≤ acc
          · rw [if_pos (by omega)] at hdec
            have icut : 2305843009213693952 ≤ a := by omega
            have HD := Lib.hid hdec
            clear hdec hdv ha hacc hcut hbd
            go_wp2
            all_goals (go_ret2; exact ⟨by rw [HD.out]; rfl, rfl⟩)
          · by_cases hov : 18446744073709551615 < acc * 8 + d
            · rw [if_pos hov] at hdec
              have icut : a < 2305843009213693952 := by omega
              have iov : 18446744073709551615 < a * 8 + ((c.toNat : Int) - 48) := by omega
              have hwr : IntKind.u64.wrap (a * 8 + ((c.toNat : Int) - 48)) = a * 8 + ((c.toNat : Int) - 48) - 18446744073709551616 := by
                rw [IntKind.wrap_u64]
                omega
              have HD := Lib.hid hdec
              clear hdec hdv ha hacc hcut hbd hov
              go_wp2
              all_goals (go_ret2; exact ⟨by rw [HD.out]; rfl, rfl⟩)
            · rw [if_neg hov] at hdec
              have HN : Hid (a * 8 + ((c.toNat : Int) - 48) = ((acc * 8 + d : Nat) : Int) ∧ acc * 8 + d ≤ 18446744073709551615 ∧ pu 8 18446744073709551615 0 bs = pu 8 18446744073709551615 (acc * 8 + d) (bs.drop (k + 1))) := Lib.hid ⟨by omega, by omega, hdec⟩
              have icut : a < 2305843009213693952 := by omega
              have iov : a * 8 + ((c.toNat : Int) - 48) ≤ 18446744073709551615 := by omega
              clear hdec hdv ha hacc hcut hbd hov
              go_wp2
              refine ⟨⟨k + 1, acc * 8 + d, a * 8 + ((c.toNat : Int) - 48), rfl, (by first | rfl | (congr 1; omega)), (by first | rfl | (congr 1; omega)), by omega, HN⟩, by simp [intOf]; omega⟩
      · rw [if_neg hdig] at hdv
        by_cases hlet : 97 ≤ lv ∧ lv ≤ 122
        · rw [if_pos hlet] at hdv
          obtain ⟨hl0, hl1⟩ := hlet
          have n95 : ((c.toNat : Int) == 95) = false := beq_eq_false_iff_ne.2 (by omega)
          clear h95
          by_cases hbd : 8 ≤ d
          · rw [if_pos hbd] at hdec
            have iw : (8 : Int) ≤ (lv : Int) - 97 + 10 := by omega
            have HD := Lib.hid hdec
            clear hdec hdv ha hacc hbd
            have hn1 : (c.toNat : Int) < 48 ∨ 57 < (c.toNat : Int) := by omega
            rcases hn1 with hn1 | hn1
            all_goals
              clear hdig
              go_wp2_with (go_at_call 207; refine (Tryz.internal_strconv_lower _ _).mono ?_; rintro e w' ⟨rfl, rfl⟩; rw [HL.out])
              all_goals (go_ret2; exact ⟨by rw [HD.out]; rfl, rfl⟩)
          · exfalso; omega
        · rw [if_neg hlet] at hdv
          rw [if_pos (by omega)] at hdec
          have HD := Lib.hid hdec
          have hn2 : (lv : Int) < 97 ∨ 122 < (lv : Int) := by omega
          have hn1 : (c.toNat : Int) < 48 ∨ 57 < (c.toNat : Int) := by omega
          clear hdec hdv ha hacc
          by_cases c95 : (c.toNat : Int) = 95
          · rw [c95] at hc HL
            have hc256' : (95 : Int) < 256 := by omega
            clear h95 hn1 hn2 hdig hlet hc256
            have h127 : bits .or .u8 95 32 = 127 := by decide
            have HB := Lib.hid h127
            clear h127
            go_wp2_with (go_at_call 207; refine (Tryz.internal_strconv_lower _ _).mono ?_; rintro e w' ⟨rfl, rfl⟩; rw [HB.out])
            all_goals (go_ret2; exact ⟨by rw [HD.out]; rfl, rfl⟩)
          have n95 : ((c.toNat : Int) == 95) = false := beq_eq_false_iff_ne.2 c95
          clear h95 c95
          rcases hn1 with hn1 | hn1 <;> rcases hn2 with hn2 | hn2
          all_goals
            clear hdig hlet
            go_wp2_with (go_at_call 207; refine (Tryz.internal_strconv_lower _ _).mono ?_; rintro e w' ⟨rfl, rfl⟩; rw [HL.out])
            all_goals (go_ret2; exact ⟨by rw [HD.out]; rfl, rfl⟩)
    · have hkk : k = t.size := by omega
      subst hkk
      have hF : pu 8 18446744073709551615 acc (bs.drop t.size) = .ok acc := by rw [List.drop_eq_nil_of_le (by omega)]; rfl
      rw [hF] at hdec
      subst ha
      clear hacc hF a0 a1
      go_wp2
      go_ret2
      first | exact ⟨rfl, rfl⟩ | exact ⟨by rw [hdec]; rfl, rfl⟩

set_option maxHeartbeats 32000000 in
set_option maxRecDepth 100000 in
theorem pu_10_64 (t : ByteArray) (hne : t.size ≠ 0) (hmax : t.size ≤ 9223372036854775806) (w : World) :
    Calls Tryz.prog 172 #[.string t, .int .i64 10, .int .i64 64] w fun e w' => e = .returned (Lib.uintTupleM 216 18446744073709551615 (pu 10 18446744073709551615 0 t.data.toList)) ∧ w' = Lib.bytesWorld w 5 t := by
  have hemp : t.toList.isEmpty = false := by
    rw [← decide_eq_emptyBytes]
    exact decide_eq_false (fun h => hne (by rw [h]; rfl))
  have hcv := Lib.run_convert_string_bytes (P := Tryz.prog) w 9 31 5 t (u := .string) Tryz.underlying9 Tryz.underlying31 Tryz.underlying5
  have hB : ∀ j, j < t.size → (Lib.bytesWorld w 5 t).cell? ⟨w.heap.size, j, none⟩ = some (.int .u8 (t.data.toList.getD j 0).toNat) := fun j hj => Lib.bytesWorld_cell w 5 t j hj
  obtain ⟨W1, hW1⟩ : ∃ W1, W1 = Lib.bytesWorld w 5 t := ⟨_, rfl⟩
  rw [← hW1] at hcv hB ⊢
  clear hW1
  obtain ⟨bs, hL⟩ : ∃ bs, bs = t.data.toList := ⟨_, rfl⟩
  have hLn : bs.length = t.size := by rw [hL, Lib.size_eq]
  rw [← hL] at hB ⊢
  clear hL
  have hmv : IntKind.u64.wrap (IntKind.u64.wrap 18446744073709551616 - 1) = 18446744073709551615 := by
    rw [IntKind.wrap_u64, IntKind.wrap_u64]
    decide
  go_enter Tryz.func172, Tryz.ntmps172
  go_wp2
  go_loop [12, 13, 101] (fun vu vn vi => ∃ (k acc : Nat) (a : Int), vu = .bool false ∧ vn = .int .u64 a ∧ vi = .int .i64 k ∧ k ≤ t.size ∧ Hid (a = (acc : Int) ∧ acc ≤ 18446744073709551615 ∧ pu 10 18446744073709551615 0 bs = pu 10 18446744073709551615 acc (bs.drop k)))
    (fun _ _ vi => t.size - (intOf vi).toNat)
  case atStart => exact ⟨0, 0, 0, rfl, rfl, rfl, by omega, rfl, by omega, rfl⟩
  case round =>
    obtain ⟨k, acc, a, rfl, rfl, rfl, hk, hh⟩ := hrel
    obtain ⟨ha, hacc, hdec⟩ := hh.out
    clear hh
    have a0 : 0 ≤ a := by omega
    have a1 : a ≤ 18446744073709551615 := by omega
    by_cases hkn : k < t.size
    · have hc := hB k hkn
      have hdrop : bs.drop k = bs[k]'(by omega) :: bs.drop (k + 1) := List.drop_eq_getElem_cons (by omega)
      have hget : bs.getD k 0 = bs[k]'(by omega) := by simp [List.getD, List.getElem?_eq_getElem (show k < bs.length by omega)]
      rw [hdrop] at hdec
      rw [hget] at hc
      generalize bs[k]'(by omega) = c at hc hdec
      have hc256 : c.toNat < 256 := c.toNat_lt
      have hl256 : (c ||| 32).toNat < 256 := (c ||| 32).toNat_lt
      have hlow := low_bits c
      rw [pu_cons] at hdec
      have hdv : dv c = if 48 ≤ c.toNat ∧ c.toNat ≤ 57 then c.toNat - 48 else if 97 ≤ (c ||| 32).toNat ∧ (c ||| 32).toNat ≤ 122 then (c ||| 32).toNat - 87 else 99 := rfl
      have h95 : c.toNat = 95 → (c ||| 32).toNat = 127 := fun h => by rw [show c = 95 from UInt8.toNat_inj.1 h]; rfl
      obtain ⟨lv, hlv⟩ : ∃ lv : Nat, lv = (c ||| 32).toNat := ⟨_, rfl⟩
      rw [← hlv] at hlow hdv hl256 h95
      clear hlv hB hdrop hget
      have HL := Lib.hid hlow
      clear hlow
      obtain ⟨d, hd⟩ : ∃ d, d = dv c := ⟨_, rfl⟩
      rw [← hd] at hdv hdec
      clear hd
      by_cases hdig : 48 ≤ c.toNat ∧ c.toNat ≤ 57
      · rw [if_pos hdig] at hdv
        obtain ⟨hd0, hd1⟩ := hdig
        clear h95
        by_cases hbd : 10 ≤ d
        · rw [if_pos hbd] at hdec
          have iw : (10 : Int) ≤ (c.toNat : Int) - 48 := by omega
          have HD := Lib.hid hdec
          clear hdec hdv ha hacc hbd
          go_wp2
          all_goals (go_ret2; exact ⟨by rw [HD.out]; rfl, rfl⟩)
        · rw [if_neg hbd] at hdec
          have iw : (c.toNat : Int) - 48 < 10 := by omega
          by_cases hcut : 1844674407370955162 ≤ acc
          · rw [if_pos (by omega)] at hdec
            have icut : 1844674407370955162 ≤ a := by omega
            have HD := Lib.hid hdec
            clear hdec hdv ha hacc hcut hbd
            go_wp2
            all_goals (go_ret2; exact ⟨by rw [HD.out]; rfl, rfl⟩)
          · by_cases hov : 18446744073709551615 < acc * 10 + d
            · rw [if_pos hov] at hdec
              have icut : a < 1844674407370955162 := by omega
              have iov : 18446744073709551615 < a * 10 + ((c.toNat : Int) - 48) := by omega
              have hwr : IntKind.u64.wrap (a * 10 + ((c.toNat : Int) - 48)) = a * 10 + ((c.toNat : Int) - 48) - 18446744073709551616 := by
                rw [IntKind.wrap_u64]
                omega
              have HD := Lib.hid hdec
              clear hdec hdv ha hacc hcut hbd hov
              go_wp2
              all_goals (go_ret2; exact ⟨by rw [HD.out]; rfl, rfl⟩)
            · rw [if_neg hov] at hdec
              have HN : Hid (a * 10 + ((c.toNat : Int) - 48) = ((acc * 10 + d : Nat) : Int) ∧ acc * 10 + d ≤ 18446744073709551615 ∧ pu 10 18446744073709551615 0 bs = pu 10 18446744073709551615 (acc * 10 + d) (bs.drop (k + 1))) := Lib.hid ⟨by omega, by omega, hdec⟩
              have icut : a < 1844674407370955162 := by omega
              have iov : a * 10 + ((c.toNat : Int) - 48) ≤ 18446744073709551615 := by omega
              clear hdec hdv ha hacc hcut hbd hov
              go_wp2
              refine ⟨⟨k + 1, acc * 10 + d, a * 10 + ((c.toNat : Int) - 48), rfl, (by first | rfl | (congr 1; omega)), (by first | rfl | (congr 1; omega)), by omega, HN⟩, by simp [intOf]; omega⟩
      · rw [if_neg hdig] at hdv
        by_cases hlet : 97 ≤ lv ∧ lv ≤ 122
        · rw [if_pos hlet] at hdv
          obtain ⟨hl0, hl1⟩ := hlet
          have n95 : ((c.toNat : Int) == 95) = false := beq_eq_false_iff_ne.2 (by omega)
          clear h95
          by_cases hbd : 10 ≤ d
          · rw [if_pos hbd] at hdec
            have iw : (10 : Int) ≤ (lv : Int) - 97 + 10 := by omega
            have HD := Lib.hid hdec
            clear hdec hdv ha hacc hbd
            have hn1 : (c.toNat : Int) < 48 ∨ 57 < (c.toNat : Int) := by omega
            rcases hn1 with hn1 | hn1
            all_goals
              clear hdig
              go_wp2_with (go_at_call 207; refine (Tryz.internal_strconv_lower _ _).mono ?_; rintro e w' ⟨rfl, rfl⟩; rw [HL.out])
              all_goals (go_ret2; exact ⟨by rw [HD.out]; rfl, rfl⟩)
          · exfalso; omega
        · rw [if_neg hlet] at hdv
          rw [if_pos (by omega)] at hdec
          have HD := Lib.hid hdec
          have hn2 : (lv : Int) < 97 ∨ 122 < (lv : Int) := by omega
          have hn1 : (c.toNat : Int) < 48 ∨ 57 < (c.toNat : Int) := by omega
          clear hdec hdv ha hacc
          by_cases c95 : (c.toNat : Int) = 95
          · rw [c95] at hc HL
            have hc256' : (95 : Int) < 256 := by omega
            clear h95 hn1 hn2 hdig hlet hc256
            have h127 : bits .or .u8 95 32 = 127 := by decide
            have HB := Lib.hid h127
            clear h127
            go_wp2_with (go_at_call 207; refine (Tryz.internal_strconv_lower _ _).mono ?_; rintro e w' ⟨rfl, rfl⟩; rw [HB.out])
            all_goals (go_ret2; exact ⟨by rw [HD.out]; rfl, rfl⟩)
          have n95 : ((c.toNat : Int) == 95) = false := beq_eq_false_iff_ne.2 c95
          clear h95 c95
          rcases hn1 with hn1 | hn1 <;> rcases hn2 with hn2 | hn2
          all_goals
            clear hdig hlet
            go_wp2_with (go_at_call 207; refine (Tryz.internal_strconv_lower _ _).mono ?_; rintro e w' ⟨rfl, rfl⟩; rw [HL.out])
            all_goals (go_ret2; exact ⟨by rw [HD.out]; rfl, rfl⟩)
    · have hkk : k = t.size := by omega
      subst hkk
      have hF : pu 10 18446744073709551615 acc (bs.drop t.size) = .ok acc := by rw [List.drop_eq_nil_of_le (by omega)]; rfl
      rw [hF] at hdec
      subst ha
      clear hacc hF a0 a1
      go_wp2
      go_ret2
      first | exact ⟨rfl, rfl⟩ | exact ⟨by rw [hdec]; rfl, rfl⟩

set_option maxHeartbeats 32000000 in
set_option maxRecDepth 100000 in
theorem pu_16_64 (t : ByteArray) (hne : t.size ≠ 0) (hmax : t.size ≤ 9223372036854775806) (w : World) :
    Calls Tryz.prog 172 #[.string t, .int .i64 16, .int .i64 64] w fun e w' => e = .returned (Lib.uintTupleM 216 18446744073709551615 (pu 16 18446744073709551615 0 t.data.toList)) ∧ w' = Lib.bytesWorld w 5 t := by
  have hemp : t.toList.isEmpty = false := by
    rw [← decide_eq_emptyBytes]
    exact decide_eq_false (fun h => hne (by rw [h]; rfl))
  have hcv := Lib.run_convert_string_bytes (P := Tryz.prog) w 9 31 5 t (u := .string) Tryz.underlying9 Tryz.underlying31 Tryz.underlying5
  have hB : ∀ j, j < t.size → (Lib.bytesWorld w 5 t).cell? ⟨w.heap.size, j, none⟩ = some (.int .u8 (t.data.toList.getD j 0).toNat) := fun j hj => Lib.bytesWorld_cell w 5 t j hj
  obtain ⟨W1, hW1⟩ : ∃ W1, W1 = Lib.bytesWorld w 5 t := ⟨_, rfl⟩
  rw [← hW1] at hcv hB ⊢
  clear hW1
  obtain ⟨bs, hL⟩ : ∃ bs, bs = t.data.toList := ⟨_, rfl⟩
  have hLn : bs.length = t.size := by rw [hL, Lib.size_eq]
  rw [← hL] at hB ⊢
  clear hL
  have hmv : IntKind.u64.wrap (IntKind.u64.wrap 18446744073709551616 - 1) = 18446744073709551615 := by
    rw [IntKind.wrap_u64, IntKind.wrap_u64]
    decide
  go_enter Tryz.func172, Tryz.ntmps172
  go_wp2
  go_loop [12, 13, 101] (fun vu vn vi => ∃ (k acc : Nat) (a : Int), vu = .bool false ∧ vn = .int .u64 a ∧ vi = .int .i64 k ∧ k ≤ t.size ∧ Hid (a = (acc : Int) ∧ acc ≤ 18446744073709551615 ∧ pu 16 18446744073709551615 0 bs = pu 16 18446744073709551615 acc (bs.drop k)))
    (fun _ _ vi => t.size - (intOf vi).toNat)
  case atStart => exact ⟨0, 0, 0, rfl, rfl, rfl, by omega, rfl, by omega, rfl⟩
  case round =>
    obtain ⟨k, acc, a, rfl, rfl, rfl, hk, hh⟩ := hrel
    obtain ⟨ha, hacc, hdec⟩ := hh.out
    clear hh
    have a0 : 0 ≤ a := by omega
    have a1 : a ≤ 18446744073709551615 := by omega
    by_cases hkn : k < t.size
    · have hc := hB k hkn
      have hdrop : bs.drop k = bs[k]'(by omega) :: bs.drop (k + 1) := List.drop_eq_getElem_cons (by omega)
      have hget : bs.getD k 0 = bs[k]'(by omega) := by simp [List.getD, List.getElem?_eq_getElem (show k < bs.length by omega)]
      rw [hdrop] at hdec
      rw [hget] at hc
      generalize bs[k]'(by omega) = c at hc hdec
      have hc256 : c.toNat < 256 := c.toNat_lt
      have hl256 : (c ||| 32).toNat < 256 := (c ||| 32).toNat_lt
      have hlow := low_bits c
      rw [pu_cons] at hdec
      have hdv : dv c = if 48 ≤ c.toNat ∧ c.toNat ≤ 57 then c.toNat - 48 else if 97 ≤ (c ||| 32).toNat ∧ (c ||| 32).toNat ≤ 122 then (c ||| 32).toNat - 87 else 99 := rfl
      have h95 : c.toNat = 95 → (c ||| 32).toNat = 127 := fun h => by rw [show c = 95 from UInt8.toNat_inj.1 h]; rfl
      obtain ⟨lv, hlv⟩ : ∃ lv : Nat, lv = (c ||| 32).toNat := ⟨_, rfl⟩
      rw [← hlv] at hlow hdv hl256 h95
      clear hlv hB hdrop hget
      have HL := Lib.hid hlow
      clear hlow
      obtain ⟨d, hd⟩ : ∃ d, d = dv c := ⟨_, rfl⟩
      rw [← hd] at hdv hdec
      clear hd
      by_cases hdig : 48 ≤ c.toNat ∧ c.toNat ≤ 57
      · rw [if_pos hdig] at hdv
        obtain ⟨hd0, hd1⟩ := hdig
        clear h95
        by_cases hbd : 16 ≤ d
        · rw [if_pos hbd] at hdec
          have iw : (16 : Int) ≤ (c.toNat : Int) - 48 := by omega
          have HD := Lib.hid hdec
          clear hdec hdv ha hacc hbd
          go_wp2
          all_goals (go_ret2; exact ⟨by rw [HD.out]; rfl, rfl⟩)
        · rw [if_neg hbd] at hdec
          have iw : (c.toNat : Int) - 48 < 16 := by omega
          by_cases hcut : 1152921504606846976 ≤ acc
          · rw [if_pos (by omega)] at hdec
            have icut : 1152921504606846976 ≤ a := by omega
            have HD := Lib.hid hdec
            clear hdec hdv ha hacc hcut hbd
            go_wp2
            all_goals (go_ret2; exact ⟨by rw [HD.out]; rfl, rfl⟩)
          · by_cases hov : 18446744073709551615 < acc * 16 + d
            · rw [if_pos hov] at hdec
              have icut : a < 1152921504606846976 := by omega
              have iov : 18446744073709551615 < a * 16 + ((c.toNat : Int) - 48) := by omega
              have hwr : IntKind.u64.wrap (a * 16 + ((c.toNat : Int) - 48)) = a * 16 + ((c.toNat : Int) - 48) - 18446744073709551616 := by
                rw [IntKind.wrap_u64]
                omega
              have HD := Lib.hid hdec
              clear hdec hdv ha hacc hcut hbd hov
              go_wp2
              all_goals (go_ret2; exact ⟨by rw [HD.out]; rfl, rfl⟩)
            · rw [if_neg hov] at hdec
              have HN : Hid (a * 16 + ((c.toNat : Int) - 48) = ((acc * 16 + d : Nat) : Int) ∧ acc * 16 + d ≤ 18446744073709551615 ∧ pu 16 18446744073709551615 0 bs = pu 16 18446744073709551615 (acc * 16 + d) (bs.drop (k + 1))) := Lib.hid ⟨by omega, by omega, hdec⟩
              have icut : a < 1152921504606846976 := by omega
              have iov : a * 16 + ((c.toNat : Int) - 48) ≤ 18446744073709551615 := by omega
              clear hdec hdv ha hacc hcut hbd hov
              go_wp2
              refine ⟨⟨k + 1, acc * 16 + d, a * 16 + ((c.toNat : Int) - 48), rfl, (by first | rfl | (congr 1; omega)), (by first | rfl | (congr 1; omega)), by omega, HN⟩, by simp [intOf]; omega⟩
      · rw [if_neg hdig] at hdv
        by_cases hlet : 97 ≤ lv ∧ lv ≤ 122
        · rw [if_pos hlet] at hdv
          obtain ⟨hl0, hl1⟩ := hlet
          have n95 : ((c.toNat : Int) == 95) = false := beq_eq_false_iff_ne.2 (by omega)
          clear h95
          by_cases hbd : 16 ≤ d
          · rw [if_pos hbd] at hdec
            have iw : (16 : Int) ≤ (lv : Int) - 97 + 10 := by omega
            have HD := Lib.hid hdec
            clear hdec hdv ha hacc hbd
            have hn1 : (c.toNat : Int) < 48 ∨ 57 < (c.toNat : Int) := by omega
            rcases hn1 with hn1 | hn1
            all_goals
              clear hdig
              go_wp2_with (go_at_call 207; refine (Tryz.internal_strconv_lower _ _).mono ?_; rintro e w' ⟨rfl, rfl⟩; rw [HL.out])
              all_goals (go_ret2; exact ⟨by rw [HD.out]; rfl, rfl⟩)
          · rw [if_neg hbd] at hdec
            have iw : (lv : Int) - 97 + 10 < 16 := by omega
            have hn1 : (c.toNat : Int) < 48 ∨ 57 < (c.toNat : Int) := by omega
            rcases hn1 with hn1 | hn1
            all_goals
              clear hdig
              by_cases hcut : 1152921504606846976 ≤ acc
              · rw [if_pos (by omega)] at hdec
                have icut : 1152921504606846976 ≤ a := by omega
                have HD := Lib.hid hdec
                clear hdec hdv ha hacc hcut hbd
                go_wp2_with (go_at_call 207; refine (Tryz.internal_strconv_lower _ _).mono ?_; rintro e w' ⟨rfl, rfl⟩; rw [HL.out])
                all_goals (go_ret2; exact ⟨by rw [HD.out]; rfl, rfl⟩)
              · by_cases hov : 18446744073709551615 < acc * 16 + d
                · rw [if_pos hov] at hdec
                  have icut : a < 1152921504606846976 := by omega
                  have iov : 18446744073709551615 < a * 16 + ((lv : Int) - 97 + 10) := by omega
                  have hwr : IntKind.u64.wrap (a * 16 + ((lv : Int) - 97 + 10)) = a * 16 + ((lv : Int) - 97 + 10) - 18446744073709551616 := by
                    rw [IntKind.wrap_u64]
                    omega
                  have HD := Lib.hid hdec
                  clear hdec hdv ha hacc hcut hbd hov
                  go_wp2_with (go_at_call 207; refine (Tryz.internal_strconv_lower _ _).mono ?_; rintro e w' ⟨rfl, rfl⟩; rw [HL.out])
                  all_goals (go_ret2; exact ⟨by rw [HD.out]; rfl, rfl⟩)
                · rw [if_neg hov] at hdec
                  have HN : Hid (a * 16 + ((lv : Int) - 97 + 10) = ((acc * 16 + d : Nat) : Int) ∧ acc * 16 + d ≤ 18446744073709551615 ∧ pu 16 18446744073709551615 0 bs = pu 16 18446744073709551615 (acc * 16 + d) (bs.drop (k + 1))) := Lib.hid ⟨by omega, by omega, hdec⟩
                  have icut : a < 1152921504606846976 := by omega
                  have iov : a * 16 + ((lv : Int) - 97 + 10) ≤ 18446744073709551615 := by omega
                  clear hdec hdv ha hacc hcut hbd hov
                  go_wp2_with (go_at_call 207; refine (Tryz.internal_strconv_lower _ _).mono ?_; rintro e w' ⟨rfl, rfl⟩; rw [HL.out])
                  refine ⟨⟨k + 1, acc * 16 + d, a * 16 + ((lv : Int) - 97 + 10), rfl, (by first | rfl | (congr 1; omega)), (by first | rfl | (congr 1; omega)), by omega, HN⟩, by simp [intOf]; omega⟩
        · rw [if_neg hlet] at hdv
          rw [if_pos (by omega)] at hdec
          have HD := Lib.hid hdec
          have hn2 : (lv : Int) < 97 ∨ 122 < (lv : Int) := by omega
          have hn1 : (c.toNat : Int) < 48 ∨ 57 < (c.toNat : Int) := by omega
          clear hdec hdv ha hacc
          by_cases c95 : (c.toNat : Int) = 95
          · rw [c95] at hc HL
            have hc256' : (95 : Int) < 256 := by omega
            clear h95 hn1 hn2 hdig hlet hc256
            have h127 : bits .or .u8 95 32 = 127 := by decide
            have HB := Lib.hid h127
            clear h127
            go_wp2_with (go_at_call 207; refine (Tryz.internal_strconv_lower _ _).mono ?_; rintro e w' ⟨rfl, rfl⟩; rw [HB.out])
            all_goals (go_ret2; exact ⟨by rw [HD.out]; rfl, rfl⟩)
          have n95 : ((c.toNat : Int) == 95) = false := beq_eq_false_iff_ne.2 c95
          clear h95 c95
          rcases hn1 with hn1 | hn1 <;> rcases hn2 with hn2 | hn2
          all_goals
            clear hdig hlet
            go_wp2_with (go_at_call 207; refine (Tryz.internal_strconv_lower _ _).mono ?_; rintro e w' ⟨rfl, rfl⟩; rw [HL.out])
            all_goals (go_ret2; exact ⟨by rw [HD.out]; rfl, rfl⟩)
    · have hkk : k = t.size := by omega
      subst hkk
      have hF : pu 16 18446744073709551615 acc (bs.drop t.size) = .ok acc := by rw [List.drop_eq_nil_of_le (by omega)]; rfl
      rw [hF] at hdec
      subst ha
      clear hacc hF a0 a1
      go_wp2
      go_ret2
      first | exact ⟨rfl, rfl⟩ | exact ⟨by rw [hdec]; rfl, rfl⟩

set_option maxHeartbeats 32000000 in
set_option maxRecDepth 100000 in
theorem pu_16_8 (t : ByteArray) (hne : t.size ≠ 0) (hmax : t.size ≤ 9223372036854775806) (w : World) :
    Calls Tryz.prog 172 #[.string t, .int .i64 16, .int .i64 8] w fun e w' => e = .returned (Lib.uintTupleM 216 255 (pu 16 255 0 t.data.toList)) ∧ w' = Lib.bytesWorld w 5 t := by
  have hemp : t.toList.isEmpty = false := by
    rw [← decide_eq_emptyBytes]
    exact decide_eq_false (fun h => hne (by rw [h]; rfl))
  have hcv := Lib.run_convert_string_bytes (P := Tryz.prog) w 9 31 5 t (u := .string) Tryz.underlying9 Tryz.underlying31 Tryz.underlying5
  have hB : ∀ j, j < t.size → (Lib.bytesWorld w 5 t).cell? ⟨w.heap.size, j, none⟩ = some (.int .u8 (t.data.toList.getD j 0).toNat) := fun j hj => Lib.bytesWorld_cell w 5 t j hj
  obtain ⟨W1, hW1⟩ : ∃ W1, W1 = Lib.bytesWorld w 5 t := ⟨_, rfl⟩
  rw [← hW1] at hcv hB ⊢
  clear hW1
  obtain ⟨bs, hL⟩ : ∃ bs, bs = t.data.toList := ⟨_, rfl⟩
  have hLn : bs.length = t.size := by rw [hL, Lib.size_eq]
  rw [← hL] at hB ⊢
  clear hL
  go_enter Tryz.func172, Tryz.ntmps172
  go_wp2
  go_loop [12, 13, 101] (fun vu vn vi => ∃ (k acc : Nat) (a : Int), vu = .bool false ∧ vn = .int .u64 a ∧ vi = .int .i64 k ∧ k ≤ t.size ∧ Hid (a = (acc : Int) ∧ acc ≤ 255 ∧ pu 16 255 0 bs = pu 16 255 acc (bs.drop k)))
    (fun _ _ vi => t.size - (intOf vi).toNat)
  case atStart => exact ⟨0, 0, 0, rfl, rfl, rfl, by omega, rfl, by omega, rfl⟩
  case round =>
    obtain ⟨k, acc, a, rfl, rfl, rfl, hk, hh⟩ := hrel
    obtain ⟨ha, hacc, hdec⟩ := hh.out
    clear hh
    have a0 : 0 ≤ a := by omega
    have a1 : a ≤ 255 := by omega
    by_cases hkn : k < t.size
    · have hc := hB k hkn
      have hdrop : bs.drop k = bs[k]'(by omega) :: bs.drop (k + 1) := List.drop_eq_getElem_cons (by omega)
      have hget : bs.getD k 0 = bs[k]'(by omega) := by simp [List.getD, List.getElem?_eq_getElem (show k < bs.length by omega)]
      rw [hdrop] at hdec
      rw [hget] at hc
      generalize bs[k]'(by omega) = c at hc hdec
      have hc256 : c.toNat < 256 := c.toNat_lt
      have hl256 : (c ||| 32).toNat < 256 := (c ||| 32).toNat_lt
      have hlow := low_bits c
      rw [pu_cons] at hdec
      have hdv : dv c = if 48 ≤ c.toNat ∧ c.toNat ≤ 57 then c.toNat - 48 else if 97 ≤ (c ||| 32).toNat ∧ (c ||| 32).toNat ≤ 122 then (c ||| 32).toNat - 87 else 99 := rfl
      have h95 : c.toNat = 95 → (c ||| 32).toNat = 127 := fun h => by rw [show c = 95 from UInt8.toNat_inj.1 h]; rfl
      obtain ⟨lv, hlv⟩ : ∃ lv : Nat, lv = (c ||| 32).toNat := ⟨_, rfl⟩
      rw [← hlv] at hlow hdv hl256 h95
      clear hlv hB hdrop hget
      have HL := Lib.hid hlow
      clear hlow
      obtain ⟨d, hd⟩ : ∃ d, d = dv c := ⟨_, rfl⟩
      rw [← hd] at hdv hdec
      clear hd
      by_cases hdig : 48 ≤ c.toNat ∧ c.toNat ≤ 57
      · rw [if_pos hdig] at hdv
        obtain ⟨hd0, hd1⟩ := hdig
        clear h95
        by_cases hbd : 16 ≤ d
        · rw [if_pos hbd] at hdec
          have iw : (16 : Int) ≤ (c.toNat : Int) - 48 := by omega
          have HD := Lib.hid hdec
          clear hdec hdv ha hacc hbd
          go_wp2
          all_goals (go_ret2; exact ⟨by rw [HD.out]; rfl, rfl⟩)
        · rw [if_neg hbd] at hdec
          have iw : (c.toNat : Int) - 48 < 16 := by omega
          · by_cases hov : 255 < acc * 16 + d
            · rw [if_pos hov] at hdec
              have icut : a < 1152921504606846976 := by omega
              have iov : 255 < a * 16 + ((c.toNat : Int) - 48) := by omega
              skip
              have HD := Lib.hid hdec
              clear hdec hdv ha hacc hbd hov
              go_wp2
              all_goals (go_ret2; exact ⟨by rw [HD.out]; rfl, rfl⟩)
            · rw [if_neg hov] at hdec
              have HN : Hid (a * 16 + ((c.toNat : Int) - 48) = ((acc * 16 + d : Nat) : Int) ∧ acc * 16 + d ≤ 255 ∧ pu 16 255 0 bs = pu 16 255 (acc * 16 + d) (bs.drop (k + 1))) := Lib.hid ⟨by omega, by omega, hdec⟩
              have icut : a < 1152921504606846976 := by omega
              have iov : a * 16 + ((c.toNat : Int) - 48) ≤ 255 := by omega
              clear hdec hdv ha hacc hbd hov
              go_wp2
              refine ⟨⟨k + 1, acc * 16 + d, a * 16 + ((c.toNat : Int) - 48), rfl, (by first | rfl | (congr 1; omega)), (by first | rfl | (congr 1; omega)), by omega, HN⟩, by simp [intOf]; omega⟩
      · rw [if_neg hdig] at hdv
        by_cases hlet : 97 ≤ lv ∧ lv ≤ 122
        · rw [if_pos hlet] at hdv
          obtain ⟨hl0, hl1⟩ := hlet
          have n95 : ((c.toNat : Int) == 95) = false := beq_eq_false_iff_ne.2 (by omega)
          clear h95
          by_cases hbd : 16 ≤ d
          · rw [if_pos hbd] at hdec
            have iw : (16 : Int) ≤ (lv : Int) - 97 + 10 := by omega
            have HD := Lib.hid hdec
            clear hdec hdv ha hacc hbd
            have hn1 : (c.toNat : Int) < 48 ∨ 57 < (c.toNat : Int) := by omega
            rcases hn1 with hn1 | hn1
            all_goals
              clear hdig
              go_wp2_with (go_at_call 207; refine (Tryz.internal_strconv_lower _ _).mono ?_; rintro e w' ⟨rfl, rfl⟩; rw [HL.out])
              all_goals (go_ret2; exact ⟨by rw [HD.out]; rfl, rfl⟩)
          · rw [if_neg hbd] at hdec
            have iw : (lv : Int) - 97 + 10 < 16 := by omega
            have hn1 : (c.toNat : Int) < 48 ∨ 57 < (c.toNat : Int) := by omega
            rcases hn1 with hn1 | hn1
            all_goals
              clear hdig
              · by_cases hov : 255 < acc * 16 + d
                · rw [if_pos hov] at hdec
                  have icut : a < 1152921504606846976 := by omega
                  have iov : 255 < a * 16 + ((lv : Int) - 97 + 10) := by omega
                  skip
                  have HD := Lib.hid hdec
                  clear hdec hdv ha hacc hbd hov
                  go_wp2_with (go_at_call 207; refine (Tryz.internal_strconv_lower _ _).mono ?_; rintro e w' ⟨rfl, rfl⟩; rw [HL.out])
                  all_goals (go_ret2; exact ⟨by rw [HD.out]; rfl, rfl⟩)
                · rw [if_neg hov] at hdec
                  have HN : Hid (a * 16 + ((lv : Int) - 97 + 10) = ((acc * 16 + d : Nat) : Int) ∧ acc * 16 + d ≤ 255 ∧ pu 16 255 0 bs = pu 16 255 (acc * 16 + d) (bs.drop (k + 1))) := Lib.hid ⟨by omega, by omega, hdec⟩
                  have icut : a < 1152921504606846976 := by omega
                  have iov : a * 16 + ((lv : Int) - 97 + 10) ≤ 255 := by omega
                  clear hdec hdv ha hacc hbd hov
                  go_wp2_with (go_at_call 207; refine (Tryz.internal_strconv_lower _ _).mono ?_; rintro e w' ⟨rfl, rfl⟩; rw [HL.out])
                  refine ⟨⟨k + 1, acc * 16 + d, a * 16 + ((lv : Int) - 97 + 10), rfl, (by first | rfl | (congr 1; omega)), (by first | rfl | (congr 1; omega)), by omega, HN⟩, by simp [intOf]; omega⟩
        · rw [if_neg hlet] at hdv
          rw [if_pos (by omega)] at hdec
          have HD := Lib.hid hdec
          have hn2 : (lv : Int) < 97 ∨ 122 < (lv : Int) := by omega
          have hn1 : (c.toNat : Int) < 48 ∨ 57 < (c.toNat : Int) := by omega
          clear hdec hdv ha hacc
          by_cases c95 : (c.toNat : Int) = 95
          · rw [c95] at hc HL
            have hc256' : (95 : Int) < 256 := by omega
            clear h95 hn1 hn2 hdig hlet hc256
            have h127 : bits .or .u8 95 32 = 127 := by decide
            have HB := Lib.hid h127
            clear h127
            go_wp2_with (go_at_call 207; refine (Tryz.internal_strconv_lower _ _).mono ?_; rintro e w' ⟨rfl, rfl⟩; rw [HB.out])
            all_goals (go_ret2; exact ⟨by rw [HD.out]; rfl, rfl⟩)
          have n95 : ((c.toNat : Int) == 95) = false := beq_eq_false_iff_ne.2 c95
          clear h95 c95
          rcases hn1 with hn1 | hn1 <;> rcases hn2 with hn2 | hn2
          all_goals
            clear hdig hlet
            go_wp2_with (go_at_call 207; refine (Tryz.internal_strconv_lower _ _).mono ?_; rintro e w' ⟨rfl, rfl⟩; rw [HL.out])
            all_goals (go_ret2; exact ⟨by rw [HD.out]; rfl, rfl⟩)
    · have hkk : k = t.size := by omega
      subst hkk
      have hF : pu 16 255 acc (bs.drop t.size) = .ok acc := by rw [List.drop_eq_nil_of_le (by omega)]; rfl
      rw [hF] at hdec
      subst ha
      clear hacc hF a0 a1
      go_wp2
      go_ret2
      first | exact ⟨rfl, rfl⟩ | exact ⟨by rw [hdec]; rfl, rfl⟩
end Go.Proofs.YtnhmgjochmollaaGreatDoor

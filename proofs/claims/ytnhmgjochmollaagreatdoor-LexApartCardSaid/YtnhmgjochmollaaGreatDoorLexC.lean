/- Contracts of lex.Key and lex.Sign: whether a text is a keyword, how long the sign is with which it begins. Condition: the library's table of blanks holds what its initialiser lays. -/
import Derived.Test.YtnhmgjochmollaaGreatDoorLexB
import Derived.Test.YtnhmgjochmollaaGreatDoorShelf
import Derived.Shelf.Strings.SlTrimAscii
namespace Go.Proofs.YtnhmgjochmollaaGreatDoor
open Go.RowKit
set_option linter.unusedSimpArgs false
set_option linter.unusedVariables false

/-- The library's table of blanks is as it was laid. -/
def Sp (w : World) : Prop := Lib.TabIs Tryz.prog w "strings.asciiSpace" .u8 Lib.asciiSpaceTab

def keyList : List (List UInt8) := [[105, 110, 116], [99, 104, 97, 114], [115, 104, 111, 114, 116], [108, 111, 110, 103], [117, 110, 115, 105, 103, 110, 101, 100], [115, 105, 103, 110, 101, 100], [118, 111, 105, 100], [115, 116, 114, 117, 99, 116], [105, 102], [101, 108, 115, 101], [119, 104, 105, 108, 101], [102, 111, 114], [100, 111], [114, 101, 116, 117, 114, 110], [98, 114, 101, 97, 107], [99, 111, 110, 116, 105, 110, 117, 101], [115, 105, 122, 101, 111, 102], [103, 111, 116, 111], [115, 119, 105, 116, 99, 104], [99, 97, 115, 101], [100, 101, 102, 97, 117, 108, 116]]
def signList : List (List UInt8) := [[60, 60, 61], [62, 62, 61], [45, 62], [43, 43], [45, 45], [60, 61], [62, 61], [61, 61], [33, 61], [38, 38], [124, 124], [60, 60], [62, 62], [43, 61], [45, 61], [42, 61], [47, 61], [37, 61], [38, 61], [124, 61], [94, 61], [40], [41], [123], [125], [91], [93], [59], [44], [46], [45], [43], [42], [47], [37], [38], [124], [94], [126], [33], [60], [62], [61], [63], [58]]
def strCells (l : List (List UInt8)) : Array Value := (l.map fun x => Value.string ⟨x.toArray⟩).toArray

theorem fields_const (s : ByteArray) (l : List (List UInt8)) (hl : Lib.fields s.data.toList = l) (hz : s.size < 4294967281) (ha : s.data.toList.all (fun b => decide (b.toNat < 128)) = true) (w : World) (hs : Sp w) :
    Calls Tryz.prog 112 #[.string s] w fun e w' => e = .returned (.slice (some ⟨w.heap.size, 0, none⟩) l.length l.length) ∧ w' = w.alloc (.cells (strCells l) 9) := by
  subst hl
  exact Tryz.strings_Fields_laid s w hz (fun j b hb => of_decide_eq_true (List.all_eq_true.1 ha b (List.mem_of_getElem? hb))) hs

theorem keys_calls (w : World) (hs : Sp w) :
    Calls Tryz.prog 72 #[] w fun e w' => e = .returned (.slice (some ⟨w.heap.size, 0, none⟩) keyList.length keyList.length) ∧ w' = w.alloc (.cells (strCells keyList) 9) := by
  go_enter Tryz.func72, Tryz.ntmps72
  go_wp2_with fail
  refine (fields_const _ keyList (by decide +kernel) (by decide +kernel) (by decide +kernel) _ hs).mono ?_
  rintro e w' ⟨rfl, rfl⟩
  go_wp2
  go_ret
  exact ⟨rfl, rfl⟩
theorem signs_calls (w : World) (hs : Sp w) :
    Calls Tryz.prog 70 #[] w fun e w' => e = .returned (.slice (some ⟨w.heap.size, 0, none⟩) signList.length signList.length) ∧ w' = w.alloc (.cells (strCells signList) 9) := by
  go_enter Tryz.func70, Tryz.ntmps70
  go_wp2_with fail
  refine (fields_const _ signList (by decide +kernel) (by decide +kernel) (by decide +kernel) _ hs).mono ?_
  rintro e w' ⟨rfl, rfl⟩
  go_wp2
  go_ret
  exact ⟨rfl, rfl⟩

/-- A new block of texts: its cells. -/
theorem strCells_cell (w : World) (l : List (List UInt8)) (j : Nat) (h : j < l.length) : (w.alloc (.cells (strCells l) 9)).cell? ⟨w.heap.size, j, none⟩ = some (.string ⟨(l[j]).toArray⟩) := by
  rw [cell_of_row _ _ j _ _ _ (heap_alloc_new w _)]
  simp [strCells, List.getElem?_eq_getElem h]

def isKey (s : List UInt8) : Bool := keyList.contains s
theorem key_calls (s : ByteArray) (w : World) (hs : Sp w) :
    Calls Tryz.prog 34 #[.string s] w fun e w' => e = .returned (.bool (isKey s.data.toList)) ∧ Below w.heap.size w w' := by
  go_enter Tryz.func34, Tryz.ntmps34
  go_wp2_with fail
  refine (keys_calls _ hs).mono ?_
  rintro e w' ⟨rfl, rfl⟩
  go_wp2_with fail
  refine (Tryz.slices_Contains_string _ 0 _ _ (keyList.map fun x => ⟨x.toArray⟩) _ _ (by simp) (by simp [keyList]) (fun j hj => ?_)).mono ?_
  · rw [Nat.zero_add, strCells_cell w keyList j (by simpa using hj)]
    simp [List.getD_eq_getElem?_getD, List.getElem?_eq_getElem (show j < keyList.length by simpa using hj)]
  rintro e w' ⟨rfl, rfl⟩
  go_wp2
  go_ret
  refine ⟨?_, (Below.refl _ _).alloc (Nat.le_refl _) _⟩
  have e : Lib.containsS (List.take keyList.length (keyList.map fun x => (⟨x.toArray⟩ : ByteArray))) s = isKey s.data.toList := by
    rw [List.take_of_length_le (by simp), Bool.eq_iff_iff, Lib.containsS_iff]
    unfold isKey
    rw [List.contains_iff_mem, List.mem_map]
    constructor
    · rintro ⟨x, hx, rfl⟩
      exact hx
    · intro h
      exact ⟨_, h, rfl⟩
  rw [e]
  rfl

/-- How long the sign is with which a text begins. -/
def signLen (s : List UInt8) : Nat := ((signList.find? fun x => x.isPrefixOf s).map List.length).getD 0
theorem sign_calls (s : ByteArray) (w : World) (hs : Sp w) :
    Calls Tryz.prog 33 #[.string s] w fun e w' => e = .returned (.int .i64 (signLen s.data.toList)) ∧ Below w.heap.size w w' := by
  go_enter Tryz.func33, Tryz.ntmps33
  go_wp2_with fail
  refine (signs_calls _ hs).mono ?_
  rintro e w' ⟨rfl, rfl⟩
  go_wp2
  go_loop [7] (fun i => ∃ k : Nat, k ≤ signList.length ∧ i = .int .i64 k ∧ Hid (signLen s.data.toList = (((signList.drop k).find? fun x => x.isPrefixOf s.data.toList).map List.length).getD 0)) (fun i => signList.length - (intOf i).toNat)
  case atStart => exact ⟨0, Nat.zero_le _, rfl, rfl⟩
  case round =>
    obtain ⟨k, hk, rfl, H⟩ := hrel
    have h45 : signList.length ≤ 45 := by decide
    by_cases hlt : k < signList.length
    · have hcell := strCells_cell w signList k hlt
      have hd : signList.drop k = signList[k] :: signList.drop (k + 1) := List.drop_eq_getElem_cons hlt
      cases hp : (signList[k]).isPrefixOf s.data.toList
      · have HP := Lib.hid hp
        have HD := Lib.hid hd
        clear hp hd
        go_wp2_with (refine (Tryz.strings_HasPrefix _ _ _).mono ?_; rintro e w' ⟨rfl, rfl⟩; rw [show Lib.hasPrefix s.data.toList (signList[k]).toArray.toList = false from HP.out])
        go_round
        case rel => exact ⟨k + 1, by omega, by go_num, by unfold Hid; rw [H.out, HD.out, List.find?_cons, HP.out]⟩
        case measure => simp [intOf]; omega
      · have HP := Lib.hid hp
        have HD := Lib.hid hd
        clear hp hd
        go_wp2_with (refine (Tryz.strings_HasPrefix _ _ _).mono ?_; rintro e w' ⟨rfl, rfl⟩; rw [show Lib.hasPrefix s.data.toList (signList[k]).toArray.toList = true from HP.out])
        go_ret
        refine ⟨?_, (Below.refl _ _).alloc (Nat.le_refl _) _⟩
        rw [H.out, HD.out, List.find?_cons, HP.out]
        simp [ByteArray.size]
    · go_wp2
      go_ret
      refine ⟨?_, (Below.refl _ _).alloc (Nat.le_refl _) _⟩
      rw [H.out, List.drop_of_length_le (by omega)]
      rfl
end Go.Proofs.YtnhmgjochmollaaGreatDoor

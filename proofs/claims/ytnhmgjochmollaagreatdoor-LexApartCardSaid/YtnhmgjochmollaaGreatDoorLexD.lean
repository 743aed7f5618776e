/- Contracts of lex.suffix and lex.split: a number's suffix; its base, its digits and what stands behind them. Conditions: ASCII texts of at most 4000 bytes; for split a text that is not empty. -/
import Derived.Test.YtnhmgjochmollaaGreatDoorLexC
import Derived.BigQuiet
import Derived.Deep.QuietTactic
import Derived.RegionTactic
namespace Go.Proofs.YtnhmgjochmollaaGreatDoor
open Go.RowKit
set_option linter.unusedSimpArgs false
set_option linter.unusedVariables false

def Ascii (s : ByteArray) : Prop := ∀ (j : Nat) b, s.data.toList[j]? = some b → b.toNat < 128
/-- A number's suffix in small letters, u ahead of l; none: it is none. -/
def suffixOf (l : List UInt8) : Option (List UInt8) :=
  if Lib.toLowerA l = [108, 117] then some [117, 108] else if Lib.toLowerA l = [] ∨ Lib.toLowerA l = [117] ∨ Lib.toLowerA l = [108] ∨ Lib.toLowerA l = [117, 108] then some (Lib.toLowerA l) else none
theorem suffix_calls (s : ByteArray) (w : World) (hs : s.size ≤ 4000) (ha : Ascii s) :
    Calls Tryz.prog 106 #[.string s] w fun e w' => e = .returned (.tuple #[.string ⟨((suffixOf s.data.toList).getD []).toArray⟩, .bool (suffixOf s.data.toList).isSome]) ∧ Below w.heap.size w w' := by
  have A := Lib.hid ha
  clear ha
  obtain ⟨l, hl⟩ : ∃ l, l = Lib.toLowerA s.data.toList := ⟨_, rfl⟩
  unfold suffixOf
  rw [← hl]
  have L := Lib.hid hl
  clear hl
  by_cases h1 : l = [108, 117]
  · subst h1
    go_enter Tryz.func106, Tryz.ntmps106
    go_wp2_with fail
    refine (Tryz.strings_ToLower_ascii _ _ (by omega) A.out).mono ?_
    rintro e w' ⟨rfl, hb⟩
    rw [← L.out]
    have B := Lib.hid hb
    clear hb
    go_wp2
    go_ret2
    exact ⟨rfl, B.out⟩
  by_cases h2 : l = []
  · subst h2
    go_enter Tryz.func106, Tryz.ntmps106
    go_wp2_with fail
    refine (Tryz.strings_ToLower_ascii _ _ (by omega) A.out).mono ?_
    rintro e w' ⟨rfl, hb⟩
    rw [← L.out]
    have B := Lib.hid hb
    clear hb
    go_wp2
    go_ret2
    exact ⟨rfl, B.out⟩
  by_cases h3 : l = [117]
  · subst h3
    go_enter Tryz.func106, Tryz.ntmps106
    go_wp2_with fail
    refine (Tryz.strings_ToLower_ascii _ _ (by omega) A.out).mono ?_
    rintro e w' ⟨rfl, hb⟩
    rw [← L.out]
    have B := Lib.hid hb
    clear hb
    go_wp2
    go_ret2
    exact ⟨rfl, B.out⟩
  by_cases h4 : l = [108]
  · subst h4
    go_enter Tryz.func106, Tryz.ntmps106
    go_wp2_with fail
    refine (Tryz.strings_ToLower_ascii _ _ (by omega) A.out).mono ?_
    rintro e w' ⟨rfl, hb⟩
    rw [← L.out]
    have B := Lib.hid hb
    clear hb
    go_wp2
    go_ret2
    exact ⟨rfl, B.out⟩
  by_cases h5 : l = [117, 108]
  · subst h5
    go_enter Tryz.func106, Tryz.ntmps106
    go_wp2_with fail
    refine (Tryz.strings_ToLower_ascii _ _ (by omega) A.out).mono ?_
    rintro e w' ⟨rfl, hb⟩
    rw [← L.out]
    have B := Lib.hid hb
    clear hb
    go_wp2
    go_ret2
    exact ⟨rfl, B.out⟩
  rw [if_neg h1, if_neg (by rintro (h | h | h | h) <;> contradiction)]
  have b1 : (l == [108, 117]) = false := beq_eq_false_iff_ne.2 h1
  have b2 : (l == []) = false := beq_eq_false_iff_ne.2 h2
  have b3 : (l == [117]) = false := beq_eq_false_iff_ne.2 h3
  have b4 : (l == [108]) = false := beq_eq_false_iff_ne.2 h4
  have b5 : (l == [117, 108]) = false := beq_eq_false_iff_ne.2 h5
  have b6 : l.isEmpty = false := by cases l <;> simp_all
  clear h1 h2 h3 h4 h5
  go_enter Tryz.func106, Tryz.ntmps106
  go_wp2_with fail
  refine (Tryz.strings_ToLower_ascii _ _ (by omega) A.out).mono ?_
  rintro e w' ⟨rfl, hb⟩
  rw [← L.out]
  have B := Lib.hid hb
  clear hb
  go_wp2
  go_ret2
  exact ⟨rfl, B.out⟩

theorem trimLeft_calls (s c : ByteArray) (hc : c.size < 4294967281) (ha : c.data.toList.all (fun b => decide (b.toNat < 128)) = true) (w : World) :
    Calls Tryz.prog 170 #[.string s, .string c] w fun e w' => e = .returned (.string ⟨(Lib.trimLeftS s.data.toList c.data.toList).toArray⟩) ∧ Below w.heap.size w w' :=
  Any.strings_TrimLeft_laid Tryz.lays161 (by kernel_rfl) s c w hc (ascii_of_all ha)

def decDigits : List UInt8 := [48, 49, 50, 51, 52, 53, 54, 55, 56, 57]
def octDigits : List UInt8 := [48, 49, 50, 51, 52, 53, 54, 55]
def hexDigits : List UInt8 := [48, 49, 50, 51, 52, 53, 54, 55, 56, 57, 97, 98, 99, 100, 101, 102, 65, 66, 67, 68, 69, 70]
def isHex (l : List UInt8) : Bool := [48, 120].isPrefixOf l || [48, 88].isPrefixOf l
/-- A number's base, its digits, and what stands behind them. -/
def splitOf (l : List UInt8) : Int × List UInt8 × List UInt8 :=
  if isHex l then (16, (l.drop 2).takeWhile (hexDigits.contains ·), (l.drop 2).dropWhile (hexDigits.contains ·))
  else if l.head? = some 48 then (8, l.takeWhile (octDigits.contains ·), l.dropWhile (octDigits.contains ·))
  else (10, l.takeWhile (decDigits.contains ·), l.dropWhile (decDigits.contains ·))

theorem cut_front (l : List UInt8) (p : UInt8 → Bool) : l.take (l.length - (l.dropWhile p).length) = l.takeWhile p := by
  have h : l.takeWhile p ++ l.dropWhile p = l := List.takeWhile_append_dropWhile
  have e : l.length - (l.dropWhile p).length = (l.takeWhile p).length := by
    have := congrArg List.length h
    rw [List.length_append] at this
    omega
  rw [e]
  have g : (l.takeWhile p ++ l.dropWhile p).take (l.takeWhile p).length = l.takeWhile p := List.take_left
  rwa [h] at g
theorem dropWhile_le (l : List UInt8) (p : UInt8 → Bool) : (l.dropWhile p).length ≤ l.length := (List.dropWhile_sublist p).length_le

theorem ba_ext {a b : ByteArray} (h : a.data.toList = b.data.toList) : a = b := by
  cases a; cases b
  simpa using h
theorem extract_mk (s : ByteArray) (a b : Nat) : s.extract a b = ⟨((s.data.toList.drop a).take (b - a)).toArray⟩ := ba_ext (by rw [Lib.extract_data])
theorem belowN {B : Nat} {w W : World} (h : Below B w W) (n : Nat) : Below B w (W.drewN n) := ⟨h.os, h.tape, h.output, h.size, h.block⟩

/-- What stands behind the choice of the base: the digits are cut off. -/
theorem split_tail (l t cs : List UInt8) (s : ByteArray) (hl : l = s.data.toList) (ht : t = Lib.trimLeftS l cs) : s.extract 0 (s.size - t.length) = ⟨(l.takeWhile (cs.contains ·)).toArray⟩ := by
  rw [extract_mk, ← hl, ← cut_front l (cs.contains ·), ht]
  have e : s.size = l.length := by rw [hl]; simp
  simp [Lib.trimLeftS, e]

theorem split_hex (s : ByteArray) (w : World) (hs : s.size ≤ 4000) (h : isHex s.data.toList = true) :
    Calls Tryz.prog 105 #[.string s] w fun e w' => e = .returned (.tuple #[.int .i64 16, .string ⟨((s.data.toList.drop 2).takeWhile (hexDigits.contains ·)).toArray⟩, .string ⟨((s.data.toList.drop 2).dropWhile (hexDigits.contains ·)).toArray⟩]) ∧ Below w.heap.size w w' := by
  have h2 : 2 ≤ s.size := by
    unfold isHex at h
    rw [Bool.or_eq_true] at h
    have : 2 ≤ s.data.toList.length := by
      rcases h with h | h
      · exact (List.isPrefixOf_iff_prefix.1 h).length_le
      · exact (List.isPrefixOf_iff_prefix.1 h).length_le
    simpa using this
  cases h1 : Lib.hasPrefix s.data.toList [48, 120]
  · have h3 : Lib.hasPrefix s.data.toList [48, 88] = true := by
      unfold Lib.hasPrefix at h1 ⊢
      unfold isHex at h
      rw [h1, Bool.false_or] at h
      exact h
    have H1 := Lib.hid h1
    have H3 := Lib.hid h3
    clear h h1 h3
    go_enter Tryz.func105, Tryz.ntmps105
    go_wp2_with fail
    refine (Tryz.strings_HasPrefix _ _ _).mono ?_
    rintro e w' ⟨rfl, rfl⟩
    rw [show Lib.hasPrefix s.data.toList (ByteArray.data _).toList = false from H1.out]
    go_wp2_with fail
    refine (Tryz.strings_HasPrefix _ _ _).mono ?_
    rintro e w' ⟨rfl, rfl⟩
    rw [show Lib.hasPrefix s.data.toList (ByteArray.data _).toList = true from H3.out]
    go_wp2_with fail
    go_quiet (fail)
    go_wp2_with fail
    rw [show (({ data := #[48, 49, 50, 51, 52, 53, 54, 55, 56, 57] } : ByteArray) ++ { data := #[97, 98, 99, 100, 101, 102, 65, 66, 67, 68, 69, 70] }) = ⟨hexDigits.toArray⟩ from rfl]
    refine (trimLeft_calls _ _ (by decide) (by decide) _).mono ?_
    rintro e w1 ⟨rfl, hb⟩
    have HB := Lib.hid hb
    clear hb
    rw [Lib.extract_to_end]
    obtain ⟨l, hl⟩ : ∃ l, l = s.data.toList.drop 2 := ⟨_, rfl⟩
    rw [← hl]
    obtain ⟨t, ht⟩ : ∃ t, t = Lib.trimLeftS l hexDigits := ⟨_, rfl⟩
    rw [show Lib.trimLeftS l (ByteArray.data _).toList = t from ht.symm]
    have hz : t.length + 2 ≤ s.size := by
      rw [ht]
      have := dropWhile_le l (hexDigits.contains ·)
      have e2 : l.length = s.size - 2 := by rw [hl]; simp
      unfold Lib.trimLeftS
      omega
    have L := Lib.hid hl
    have T := Lib.hid ht
    clear hl ht
    go_wp2_with fail
    go_quiet (fail)
    go_wp2
    go_ret3
    refine ⟨?_, belowN ((belowN (Below.refl _ _) _).trans HB.out) _⟩
    have e1 := split_tail l t hexDigits (s.extract 2 s.size) (by rw [Lib.extract_to_end]; exact L.out) T.out
    have e2 : (s.extract 2 s.size).size = s.size - 2 := by simp
    rw [e2] at e1
    rw [← L.out]
    show Ending.returned (.tuple #[_, _, _]) = _
    rw [show (Array.getD _ 3 undef) = Value.string ((s.extract 2 s.size).extract 0 (s.size - 2 - t.length)) from rfl, e1, show (Array.getD _ 4 undef) = Value.string ⟨t.toArray⟩ from rfl, T.out]
    rfl
  · have H1 := Lib.hid h1
    clear h h1
    go_enter Tryz.func105, Tryz.ntmps105
    go_wp2_with fail
    refine (Tryz.strings_HasPrefix _ _ _).mono ?_
    rintro e w' ⟨rfl, rfl⟩
    rw [show Lib.hasPrefix s.data.toList (ByteArray.data _).toList = true from H1.out]
    go_wp2_with fail
    go_quiet (fail)
    go_wp2_with fail
    rw [show (({ data := #[48, 49, 50, 51, 52, 53, 54, 55, 56, 57] } : ByteArray) ++ { data := #[97, 98, 99, 100, 101, 102, 65, 66, 67, 68, 69, 70] }) = ⟨hexDigits.toArray⟩ from rfl]
    refine (trimLeft_calls _ _ (by decide) (by decide) _).mono ?_
    rintro e w1 ⟨rfl, hb⟩
    have HB := Lib.hid hb
    clear hb
    rw [Lib.extract_to_end]
    obtain ⟨l, hl⟩ : ∃ l, l = s.data.toList.drop 2 := ⟨_, rfl⟩
    rw [← hl]
    obtain ⟨t, ht⟩ : ∃ t, t = Lib.trimLeftS l hexDigits := ⟨_, rfl⟩
    rw [show Lib.trimLeftS l (ByteArray.data _).toList = t from ht.symm]
    have hz : t.length + 2 ≤ s.size := by
      rw [ht]
      have := dropWhile_le l (hexDigits.contains ·)
      have e2 : l.length = s.size - 2 := by rw [hl]; simp
      unfold Lib.trimLeftS
      omega
    have L := Lib.hid hl
    have T := Lib.hid ht
    clear hl ht
    go_wp2_with fail
    go_quiet (fail)
    go_wp2
    go_ret3
    refine ⟨?_, belowN ((belowN (Below.refl _ _) _).trans HB.out) _⟩
    have e1 := split_tail l t hexDigits (s.extract 2 s.size) (by rw [Lib.extract_to_end]; exact L.out) T.out
    have e2 : (s.extract 2 s.size).size = s.size - 2 := by simp
    rw [e2] at e1
    rw [← L.out]
    show Ending.returned (.tuple #[_, _, _]) = _
    rw [show (Array.getD _ 3 undef) = Value.string ((s.extract 2 s.size).extract 0 (s.size - 2 - t.length)) from rfl, e1, show (Array.getD _ 4 undef) = Value.string ⟨t.toArray⟩ from rfl, T.out]
    rfl

theorem split_plain (s : ByteArray) (w : World) (hs : s.size ≤ 4000) (h0 : 0 < s.size) (h : isHex s.data.toList = false) :
    Calls Tryz.prog 105 #[.string s] w fun e w' => e = .returned (.tuple #[.int .i64 (splitOf s.data.toList).1, .string ⟨(splitOf s.data.toList).2.1.toArray⟩, .string ⟨(splitOf s.data.toList).2.2.toArray⟩]) ∧ Below w.heap.size w w' := by
  have h1 : Lib.hasPrefix s.data.toList [48, 120] = false := by
    unfold isHex at h
    exact (Bool.or_eq_false_iff.1 h).1
  have h3 : Lib.hasPrefix s.data.toList [48, 88] = false := by
    unfold isHex at h
    exact (Bool.or_eq_false_iff.1 h).2
  have hh : s.data.toList.head? = some s[0] := by
    rw [List.head?_eq_getElem?]
    exact List.getElem?_eq_getElem (by simpa using h0)
  have H := Lib.hid h
  have H1 := Lib.hid h1
  have H3 := Lib.hid h3
  have HH := Lib.hid hh
  clear h h1 h3 hh
  by_cases hc : s[0] = 48
  · have hb : (((s[0]).toNat : Int) == 48) = true := by rw [hc]; rfl
    have C := Lib.hid hc
    clear hc
    go_enter Tryz.func105, Tryz.ntmps105
    go_wp2_with fail
    refine (Tryz.strings_HasPrefix _ _ _).mono ?_
    rintro e w' ⟨rfl, rfl⟩
    rw [show Lib.hasPrefix s.data.toList (ByteArray.data _).toList = false from H1.out]
    go_wp2_with fail
    refine (Tryz.strings_HasPrefix _ _ _).mono ?_
    rintro e w' ⟨rfl, rfl⟩
    rw [show Lib.hasPrefix s.data.toList (ByteArray.data _).toList = false from H3.out]
    go_wp2_with fail
    refine (trimLeft_calls _ _ (by decide) (by decide) _).mono ?_
    rintro e w1 ⟨rfl, hb⟩
    have HB := Lib.hid hb
    clear hb
    obtain ⟨l, hl⟩ : ∃ l, l = s.data.toList := ⟨_, rfl⟩
    rw [← hl]
    obtain ⟨t, ht⟩ : ∃ t, t = Lib.trimLeftS l octDigits := ⟨_, rfl⟩
    rw [show Lib.trimLeftS l (ByteArray.data _).toList = t from ht.symm]
    have hz : t.length ≤ s.size := by
      rw [ht]
      have := dropWhile_le l (octDigits.contains ·)
      have e2 : l.length = s.size := by rw [hl]; simp
      unfold Lib.trimLeftS
      omega
    have L := Lib.hid hl
    have T := Lib.hid ht
    clear hl ht
    go_wp2_with fail
    go_quiet (fail)
    go_wp2
    go_ret3
    refine ⟨?_, belowN HB.out _⟩
    have e1 := split_tail l t octDigits s L.out T.out
    rw [← L.out, show splitOf l = (8, l.takeWhile (octDigits.contains ·), l.dropWhile (octDigits.contains ·)) by unfold splitOf; rw [L.out, H.out, HH.out]; simp [C.out]]
    show Ending.returned (.tuple #[_, _, _]) = _
    rw [show (Array.getD _ 3 undef) = Value.string (s.extract 0 (s.size - t.length)) from rfl, e1, show (Array.getD _ 4 undef) = Value.string ⟨t.toArray⟩ from rfl, T.out]
    rfl
  · have hb : (((s[0]).toNat : Int) == 48) = false := by
      rw [beq_eq_false_iff_ne]
      intro e
      exact hc (UInt8.toNat_inj.1 (by have e2 : ((s[0]).toNat : Int) = 48 := e; show (s[0]).toNat = 48; omega))
    have C := Lib.hid hc
    clear hc
    go_enter Tryz.func105, Tryz.ntmps105
    go_wp2_with fail
    refine (Tryz.strings_HasPrefix _ _ _).mono ?_
    rintro e w' ⟨rfl, rfl⟩
    rw [show Lib.hasPrefix s.data.toList (ByteArray.data _).toList = false from H1.out]
    go_wp2_with fail
    refine (Tryz.strings_HasPrefix _ _ _).mono ?_
    rintro e w' ⟨rfl, rfl⟩
    rw [show Lib.hasPrefix s.data.toList (ByteArray.data _).toList = false from H3.out]
    go_wp2_with fail
    refine (trimLeft_calls _ _ (by decide) (by decide) _).mono ?_
    rintro e w1 ⟨rfl, hb⟩
    have HB := Lib.hid hb
    clear hb
    obtain ⟨l, hl⟩ : ∃ l, l = s.data.toList := ⟨_, rfl⟩
    rw [← hl]
    obtain ⟨t, ht⟩ : ∃ t, t = Lib.trimLeftS l decDigits := ⟨_, rfl⟩
    rw [show Lib.trimLeftS l (ByteArray.data _).toList = t from ht.symm]
    have hz : t.length ≤ s.size := by
      rw [ht]
      have := dropWhile_le l (decDigits.contains ·)
      have e2 : l.length = s.size := by rw [hl]; simp
      unfold Lib.trimLeftS
      omega
    have L := Lib.hid hl
    have T := Lib.hid ht
    clear hl ht
    go_wp2_with fail
    go_quiet (fail)
    go_wp2
    go_ret3
    refine ⟨?_, belowN HB.out _⟩
    have e1 := split_tail l t decDigits s L.out T.out
    rw [← L.out, show splitOf l = (10, l.takeWhile (decDigits.contains ·), l.dropWhile (decDigits.contains ·)) by unfold splitOf; rw [L.out, H.out, HH.out]; simp [C.out]]
    show Ending.returned (.tuple #[_, _, _]) = _
    rw [show (Array.getD _ 3 undef) = Value.string (s.extract 0 (s.size - t.length)) from rfl, e1, show (Array.getD _ 4 undef) = Value.string ⟨t.toArray⟩ from rfl, T.out]
    rfl
end Go.Proofs.YtnhmgjochmollaaGreatDoor

/- Contract of lex.escape: which byte an escape is, and how long. Conditions: a text of at most 4000 bytes; what the library's variables hold (Amb). -/
import Derived.Test.YtnhmgjochmollaaGreatDoorLexH
import Derived.Deep.RegionWith
namespace Go.Proofs.YtnhmgjochmollaaGreatDoor
open Go.RowKit
set_option linter.unusedSimpArgs false
set_option linter.unusedVariables false

theorem toList_two (s : ByteArray) (h : 2 ≤ s.size) : s.data.toList = s[0] :: s[1] :: s.data.toList.drop 2 := by
  have e0 : s.data.toList = s[0] :: s.data.toList.drop 1 := List.drop_eq_getElem_cons (l := s.data.toList) (i := 0) (by simpa using (show 0 < s.size by omega))
  have e1 : s.data.toList.drop 1 = s[1] :: s.data.toList.drop 2 := List.drop_eq_getElem_cons (by simpa using (show 1 < s.size by omega))
  rw [← e1]; exact e0

theorem escape_short (s : ByteArray) (w : World) (hs : s.size < 2) :
    Calls Tryz.prog 108 #[.string s] w fun e w' => e = .returned (.tuple #[.int .u8 0, .int .i64 0]) ∧ w = w' := by
  go_enter Tryz.func108, Tryz.ntmps108
  go_wp2
  go_ret2
  exact ⟨rfl, rfl⟩

set_option maxHeartbeats 1000000 in
set_option maxRecDepth 100000 in
theorem escape_one (s : ByteArray) (w : World) (hs : 2 ≤ s.size) (h4 : s.size ≤ 4000) (hx : ((s[1]).toNat : Int) ≠ 120) (v : Int) (hv : imGet escMap (s[1]).toNat = some (.int .u8 v)) :
    Calls Tryz.prog 108 #[.string s] w fun e w' => e = .returned (.tuple #[.int .u8 v, .int .i64 2]) ∧ Below w.heap.size w w' := by
  have hx1 : (((s[1]).toNat : Int) != 120) = true := bne_iff_ne.2 hx
  have h1 : 1 < s.size := by omega
  clear hx
  have V := Lib.hid hv
  clear hv
  go_enter Tryz.func108, Tryz.ntmps108
  go_wp2
  go_region_with (go_at_call 174; refine (escapes_calls _).mono ?_; rintro e w' ⟨rfl, hi, hb⟩; have hlk : (Instr.lookup 182 (.map (some w.heap.size)) (.int .u8 ((s[1]).toNat : Int)) true).run Tryz.prog w' = .ok (.tuple #[.int .u8 v, .bool true]) w' := (by have q := (imap_look hi 182 5 5 esc_under u8_under (.int .u8 0) (u8_zero _) ((s[1]).toNat : Int)).1; rw [V.out] at q; exact q); have HB := Lib.hid hb; clear hb hi)
  all_goals
    go_wp2
    go_ret2
    exact ⟨rfl, ((Below.refl _ _).drew).trans HB.out⟩

set_option maxHeartbeats 1000000 in
set_option maxRecDepth 100000 in
theorem escape_none (s : ByteArray) (w : World) (hs : 2 ≤ s.size) (h4 : s.size ≤ 4000) (hx : ((s[1]).toNat : Int) ≠ 120) (hv : imGet escMap (s[1]).toNat = none) :
    Calls Tryz.prog 108 #[.string s] w fun e w' => e = .returned (.tuple #[.int .u8 0, .int .i64 0]) ∧ Below w.heap.size w w' := by
  have hx1 : (((s[1]).toNat : Int) != 120) = true := bne_iff_ne.2 hx
  have h1 : 1 < s.size := by omega
  clear hx
  have V := Lib.hid hv
  clear hv
  go_enter Tryz.func108, Tryz.ntmps108
  go_wp2
  go_region_with (go_at_call 174; refine (escapes_calls _).mono ?_; rintro e w' ⟨rfl, hi, hb⟩; have hlk : (Instr.lookup 182 (.map (some w.heap.size)) (.int .u8 ((s[1]).toNat : Int)) true).run Tryz.prog w' = .ok (.tuple #[.int .u8 0, .bool false]) w' := (by have q := (imap_look hi 182 5 5 esc_under u8_under (.int .u8 0) (u8_zero _) ((s[1]).toNat : Int)).1; rw [V.out] at q; exact q); have HB := Lib.hid hb; clear hb hi)
  all_goals
    go_wp2
    go_ret2
    exact ⟨rfl, ((Below.refl _ _).drew).trans HB.out⟩

set_option maxHeartbeats 1000000 in
theorem escape_hex (s : ByteArray) (w : World) (hA : Amb w) (hs : 2 ≤ s.size) (h4 : s.size ≤ 4000) (hx : ((s[1]).toNat : Int) = 120) :
    Calls Tryz.prog 108 #[.string s] w fun e w' => e = .returned (.tuple #[.int .u8 (escapeOf s.data.toList).1, .int .i64 (escapeOf s.data.toList).2]) ∧ Below w.heap.size w w' := by
  have hx1 : (((s[1]).toNat : Int) != 120) = false := bne_eq_false_iff_eq.2 hx
  have h1 : 1 < s.size := by omega
  have e1 : s[1] = 120 := UInt8.toNat_inj.1 (by have : ((s[1]).toNat : Int) = 120 := hx; show (s[1]).toNat = 120; omega)
  have hl := toList_two s hs
  clear hx
  have E1 := Lib.hid e1
  have L := Lib.hid hl
  have A := Lib.hid hA
  clear e1 hl hA
  by_cases hz : s.size < 4
  · go_enter Tryz.func108, Tryz.ntmps108
    go_wp2
    go_ret2
    have e : escapeOf s.data.toList = (0, 0) := by
      rw [L.out, E1.out]
      unfold escapeOf
      have hd : (s.data.toList.drop 2).length < 2 := by simp; omega
      match hm : s.data.toList.drop 2, hd with
      | [], _ => simp
      | [x], _ => simp
    rw [e]
    exact ⟨rfl, Below.refl _ _⟩
  have hd : s.data.toList.drop 2 = s[2] :: s[3] :: s.data.toList.drop 4 := by
    have e0 : s.data.toList.drop 2 = s[2] :: s.data.toList.drop 3 := List.drop_eq_getElem_cons (by simpa using (show 2 < s.size by omega))
    have e1 : s.data.toList.drop 3 = s[3] :: s.data.toList.drop 4 := List.drop_eq_getElem_cons (by simpa using (show 3 < s.size by omega))
    rw [e0, e1]
  have h2 : 2 < s.size := by omega
  have h3 : 3 < s.size := by omega
  have HD := Lib.hid hd
  clear hd
  cases p2 : partB ((s[2]).toNat : Int)
  · have P2 := Lib.hid p2
    clear p2
    go_enter Tryz.func108, Tryz.ntmps108
    go_wp2_with (refine (part_calls _ _).mono ?_; rintro e w' ⟨rfl, rfl⟩; rw [P2.out])
    go_ret2
    have e : escapeOf s.data.toList = (0, 0) := by
      rw [L.out, E1.out, HD.out]
      simp [escapeOf, P2.out]
    rw [e]
    exact ⟨rfl, Below.refl _ _⟩
  cases p3 : partB ((s[3]).toNat : Int)
  · have P2 := Lib.hid p2
    have P3 := Lib.hid p3
    clear p2 p3
    go_enter Tryz.func108, Tryz.ntmps108
    go_wp2_with fail
    refine (part_calls _ _).mono ?_
    rintro e w' ⟨rfl, rfl⟩
    rw [P2.out]
    go_wp2_with fail
    refine (part_calls _ _).mono ?_
    rintro e w' ⟨rfl, rfl⟩
    rw [P3.out]
    go_wp2
    go_ret2
    have e : escapeOf s.data.toList = (0, 0) := by
      rw [L.out, E1.out, HD.out]
      simp [escapeOf, P2.out, P3.out]
    rw [e]
    exact ⟨rfl, Below.refl _ _⟩
  have P2 := Lib.hid p2
  have P3 := Lib.hid p3
  clear p2 p3
  have hx : s.extract 2 4 = ⟨#[s[2], s[3]]⟩ := ba_ext (by rw [Lib.extract_data, HD.out]; rfl)
  have HX := Lib.hid hx
  have he : escapeOf s.data.toList = match pu 16 255 0 [s[2], s[3]] with
        | .ok v => ((v : Int), 4)
        | _ => (0, 0) := by
    rw [L.out, E1.out, HD.out]
    simp only [escapeOf, P2.out, P3.out]
    rfl
  have HE := Lib.hid he
  obtain ⟨r, hr⟩ : ∃ r, r = pu 16 255 0 [s[2], s[3]] := ⟨_, rfl⟩
  have R := Lib.hid hr
  have hu : ∀ u, r = .ok u → u ≤ 255 := by
    intro u hu
    rw [hr] at hu
    simp only [pu] at hu
    split at hu
    · cases hu
    split at hu
    · cases hu
    split at hu
    · cases hu
    split at hu
    · cases hu
    simp only [Lib.NumEnd.ok.injEq] at hu
    omega
  have U := Lib.hid hu
  clear hx he hr hu
  go_enter Tryz.func108, Tryz.ntmps108
  go_wp2_with fail
  refine (part_calls _ _).mono ?_
  rintro e w' ⟨rfl, rfl⟩
  rw [P2.out]
  go_wp2_with fail
  refine (part_calls _ _).mono ?_
  rintro e w' ⟨rfl, rfl⟩
  rw [P3.out]
  go_wp2_with fail
  rw [HX.out]
  refine (parse_byte _ _ A.out (fun h => by cases h) (Nat.le_of_lt_succ (by show 2 < 4001; omega))).mono ?_
  rintro e w' ⟨hb, hp⟩
  have HB := Lib.hid hb
  clear hb
  have e : (ByteArray.mk #[s[2], s[3]]).data.toList = [s[2], s[3]] := rfl
  rw [e, ← R.out] at hp
  rcases r with u | _ | _
  ·
    have hu := U.out u rfl
    subst hp
    go_wp2
    go_ret2
    refine ⟨?_, HB.out⟩
    rw [HE.out, ← R.out]
    rfl
  ·
    obtain ⟨n, T, x, rfl⟩ := hp
    go_wp2
    go_ret2
    refine ⟨?_, HB.out⟩
    rw [HE.out, ← R.out]
    rfl
  ·
    obtain ⟨n, T, x, rfl⟩ := hp
    go_wp2
    go_ret2
    refine ⟨?_, HB.out⟩
    rw [HE.out, ← R.out]
    rfl

/-- The map of escapes holds bytes alone. -/
theorem escMap_u8 (c : Int) : imGet escMap c = none ∨ ∃ v, imGet escMap c = some (.int .u8 v) := by
  have : ∀ l : List (Int × Int), imGet (l.map fun p => (p.1, Value.int .u8 p.2)) c = none ∨ ∃ v, imGet (l.map fun p => (p.1, Value.int .u8 p.2)) c = some (.int .u8 v) := by
    intro l
    induction l with
    | nil => exact .inl rfl
    | cons p l ih =>
      simp only [List.map_cons, imGet]
      split
      · exact .inr ⟨_, rfl⟩
      · exact ih
  exact this escList
theorem escape_calls (s : ByteArray) (w : World) (hA : Amb w) (h4 : s.size ≤ 4000) :
    Calls Tryz.prog 108 #[.string s] w fun e w' => e = .returned (.tuple #[.int .u8 (escapeOf s.data.toList).1, .int .i64 (escapeOf s.data.toList).2]) ∧ Below w.heap.size w w' := by
  by_cases hs : s.size < 2
  · have e : escapeOf s.data.toList = (0, 0) := by
      have hl : s.data.toList.length < 2 := by simpa using hs
      match s.data.toList, hl with
      | [], _ => rfl
      | [_], _ => rfl
    rw [e]
    exact (escape_short s w hs).mono fun e w' ⟨h1, h2⟩ => ⟨h1, h2 ▸ Below.refl _ _⟩
  have hl := toList_two s (by omega)
  by_cases hx : ((s[1]'(by omega)).toNat : Int) = 120
  · exact escape_hex s w hA (by omega) h4 hx
  have hne : s[1]'(by omega) ≠ 120 := fun h => hx (by rw [h]; rfl)
  rcases escMap_u8 (s[1]'(by omega)).toNat with hv | ⟨v, hv⟩
  · have e : escapeOf s.data.toList = (0, 0) := by
      rw [hl]
      simp only [escapeOf]
      rw [if_pos hne, hv]
    rw [e]
    exact escape_none s w (by omega) h4 hx hv
  · have e : escapeOf s.data.toList = (v, 2) := by
      rw [hl]
      simp only [escapeOf]
      rw [if_pos hne, hv]
    rw [e]
    exact escape_one s w (by omega) h4 hx v hv
end Go.Proofs.YtnhmgjochmollaaGreatDoor

/- Contracts of package lex's methods on a scan that only look at its source: the rest from a place on, the letters and digits from a place on; and of the one that notes a fault. Conditions: the scan's block, places within the source, a source of at most 4000 bytes. -/
import Derived.Test.YtnhmgjochmollaaGreatDoorLexA
namespace Go.Proofs.YtnhmgjochmollaaGreatDoor
open Go.RowKit
set_option linter.unusedSimpArgs false
set_option linter.unusedVariables false

/-- Block g is a scan of the source s, its fault e at p. -/
def ScanAt (w : World) (g : Nat) (s : ByteArray) (e p : Int) : Prop := w.heap[g]? = some (.cells #[.string s, .int .i64 e, .int .i64 p] 63 (0, 0))
theorem ScanAt.lt {w : World} {g : Nat} {s : ByteArray} {e p : Int} (h : ScanAt w g s e p) : g < w.heap.size := (Array.getElem?_eq_some_iff.1 h).1
theorem ScanAt.c0 {w : World} {g : Nat} {s : ByteArray} {e p : Int} (h : ScanAt w g s e p) : w.cell? ⟨g, 0, none⟩ = some (.string s) := (cell_of_row w g 0 _ _ _ h).trans rfl
theorem ScanAt.c1 {w : World} {g : Nat} {s : ByteArray} {e p : Int} (h : ScanAt w g s e p) : w.cell? ⟨g, 1, none⟩ = some (.int .i64 e) := (cell_of_row w g 1 _ _ _ h).trans rfl
theorem ScanAt.c2 {w : World} {g : Nat} {s : ByteArray} {e p : Int} (h : ScanAt w g s e p) : w.cell? ⟨g, 2, none⟩ = some (.int .i64 p) := (cell_of_row w g 2 _ _ _ h).trans rfl
theorem ScanAt.fr {w : World} {g : Nat} {s : ByteArray} {e p : Int} (h : ScanAt w g s e p) (i : Nat) : w.frozen? ⟨g, i, none⟩ = false := by unfold ScanAt at h; simp [World.frozen?, h]

theorem rest_calls (g : Nat) (s : ByteArray) (at_ : Int) (w : World) (hc : w.cell? ⟨g, 0, none⟩ = some (.string s)) (h0 : 0 ≤ at_) (h1 : at_ ≤ s.size) :
    Calls Tryz.prog 56 #[.pointer (some ⟨g, 0, none⟩), .int .i64 at_] w fun e w' => e = .returned (.string (s.extract at_.toNat s.size)) ∧ w = w' := by
  go_enter Tryz.func56, Tryz.ntmps56
  go_wp2
  go_ret
  exact ⟨rfl, rfl⟩

theorem fails_first (g : Nat) (s : ByteArray) (e p c at_ : Int) (w : World) (h : ScanAt w g s e p) (he : e = 0) :
    Calls Tryz.prog 60 #[.pointer (some ⟨g, 0, none⟩), .int .i64 c, .int .i64 at_] w fun e' w' => e' = .returned (.tuple #[]) ∧ ScanAt w' g s c at_ ∧ w.grownBy w' (some g) := by
  subst he
  have h0 := h.c0
  have h1 := h.c1
  have h2 := h.c2
  have f1 := h.fr 1
  have f2 := h.fr 2
  have H := Lib.hid h
  clear h
  go_enter Tryz.func60, Tryz.ntmps60
  go_wp2
  go_end0
  refine ⟨rfl, ?_, ?_⟩
  · have hh := H.out
    unfold ScanAt at hh ⊢
    simp [World.setCell, hh, Array.getElem?_modify]
  · refine ⟨rfl, rfl, rfl, by simp [World.setCell], fun k _ hk => ?_⟩
    rw [Below.heap_setCell _ _ _ _ (by simpa using fun e => hk (by rw [e])), Below.heap_setCell _ _ _ _ (by simpa using fun e => hk (by rw [e]))]

/-- How many letters and digits a text begins with. -/
def runLen (l : List UInt8) : Nat := (l.takeWhile fun c => partB (c.toNat : Int)).length
theorem runLen_le (l : List UInt8) : runLen l ≤ l.length := (List.takeWhile_sublist _).length_le
theorem runLen_step (s : ByteArray) (k : Nat) (h : k < s.size) (hp : partB ((s[k]).toNat : Int) = true) : runLen (s.data.toList.drop k) = 1 + runLen (s.data.toList.drop (k + 1)) := by
  have e : s.data.toList.drop k = s[k] :: s.data.toList.drop (k + 1) := List.drop_eq_getElem_cons (by simpa using h)
  rw [e]
  simp [runLen, List.takeWhile_cons, hp]
  omega
theorem runLen_stop (s : ByteArray) (k : Nat) (h : k < s.size) (hp : partB ((s[k]).toNat : Int) = false) : runLen (s.data.toList.drop k) = 0 := by
  have e : s.data.toList.drop k = s[k] :: s.data.toList.drop (k + 1) := List.drop_eq_getElem_cons (by simpa using h)
  rw [e]
  simp [runLen, List.takeWhile_cons, hp]
theorem runLen_end (s : ByteArray) : runLen (s.data.toList.drop s.size) = 0 := by
  rw [List.drop_of_length_le (by simp)]
  rfl

theorem run_calls (g : Nat) (s : ByteArray) (a : Nat) (w : World) (hc : w.cell? ⟨g, 0, none⟩ = some (.string s)) (h1 : a ≤ s.size) (hs : s.size ≤ 4000) :
    Calls Tryz.prog 104 #[.pointer (some ⟨g, 0, none⟩), .int .i64 a] w fun e w' => e = .returned (.string (s.extract a (a + runLen (s.data.toList.drop a)))) ∧ w = w' := by
  go_enter Tryz.func104, Tryz.ntmps104
  go_wp2
  go_loop [5] (fun t => ∃ k : Nat, a ≤ k ∧ k ≤ s.size ∧ t = .int .i64 k ∧ Hid (runLen (s.data.toList.drop a) = (k - a) + runLen (s.data.toList.drop k))) (fun t => s.size - (intOf t).toNat)
  case atStart => exact ⟨a, Nat.le_refl _, h1, rfl, by simp [Hid]⟩
  case round =>
    obtain ⟨k, hak, hk, rfl, H⟩ := hrel
    by_cases hlt : k < s.size
    · cases hp : partB ((s[k]).toNat : Int)
      · have h0 := runLen_stop s k hlt hp
        have HP := Lib.hid hp
        have H0 := Lib.hid h0
        clear hp h0
        go_wp2_with (refine (part_calls _ _).mono ?_; rintro e w' ⟨rfl, rfl⟩; rw [HP.out])
        go_ret
        refine ⟨?_, rfl⟩
        have e : a + runLen (s.data.toList.drop a) = k := by rw [H.out, H0.out]; omega
        rw [e]
        simp
      · have h0 := runLen_step s k hlt hp
        have HP := Lib.hid hp
        have H0 := Lib.hid h0
        clear hp h0
        go_wp2_with (refine (part_calls _ _).mono ?_; rintro e w' ⟨rfl, rfl⟩; rw [HP.out])
        go_round
        case rel => exact ⟨k + 1, by omega, by omega, by go_num, by unfold Hid; rw [H.out, H0.out]; omega⟩
        case measure => simp [intOf]; omega
    · have hke : k = s.size := by omega
      have HK := Lib.hid hke
      clear hke
      go_wp2_with fail
      go_ret
      refine ⟨?_, rfl⟩
      have e : a + runLen (s.data.toList.drop a) = k := by rw [H.out, HK.out, runLen_end]; omega
      rw [e]
      simp

end Go.Proofs.YtnhmgjochmollaaGreatDoor

/- What lex's skipping leaves out, in plain Lean: it does not hang on what stands behind. -/
import Derived.Test.YtnhmgjochmollaaGreatDoorLexT
namespace Go.Proofs.YtnhmgjochmollaaGreatDoor
open Go.RowKit
set_option linter.unusedSimpArgs false
set_option linter.unusedVariables false

theorem hasPrefix_two {a b : UInt8} {l : List UInt8} (h : Lib.hasPrefix l [a, b] = true) : ∃ t, l = a :: b :: t := by
  obtain ⟨t, ht⟩ := List.isPrefixOf_iff_prefix.1 h
  exact ⟨t, ht.symm⟩
theorem ix_line {l : List UInt8} (h : Lib.hasPrefix l [47, 47] = true) (h0 : 0 ≤ Lib.indexByte l 10) : 1 ≤ Lib.indexByte l 10 := by
  obtain ⟨t, rfl⟩ := hasPrefix_two h
  unfold Lib.indexByte at h0 ⊢
  rw [if_neg (by decide)] at h0 ⊢
  have := Lib.indexByte_ge (47 :: t) 10
  split at h0
  · omega
  · rename_i hq
    rw [if_neg hq]
    have : Lib.indexByte (47 :: t) 10 ≠ -1 := fun e => hq (by rw [e]; rfl)
    omega
theorem skipS_fuel (f g : Nat) (l : List UInt8) (hf : l.length < f) (hg : l.length < g) : skipS f l = skipS g l := by
  induction f generalizing g l with
  | zero => omega
  | succ f ih =>
    obtain ⟨g, rfl⟩ : ∃ g', g = g' + 1 := ⟨g - 1, by omega⟩
    cases l with
    | nil => rfl
    | cons c l =>
      simp only [List.length_cons] at hf hg
      rw [skipS, skipS]
      split
      · exact ih g l (by omega) (by omega)
      · split
        · rename_i hp
          split
          · exact ih g [] (by simp; omega) (by simp; omega)
          · have := ix_line hp (by omega)
            exact ih g _ (by simp; omega) (by simp; omega)
        · split
          · split
            · rfl
            · exact ih g _ (by simp; omega) (by simp; omega)
          · rfl
/-- Skipping, with fuel enough. -/
def skipT (l : List UInt8) : Bool × List UInt8 := skipS (l.length + 1) l
theorem skipT_of {f : Nat} {l : List UInt8} (h : l.length < f) : skipS f l = skipT l := skipS_fuel _ _ _ h (by omega)
theorem skipT_nil : skipT [] = (true, []) := rfl
theorem skipT_blank {c : UInt8} {l : List UInt8} (h : 0 ≤ Lib.indexByte [9, 10, 13, 32] c) : skipT (c :: l) = skipT l := by
  unfold skipT
  rw [skip_blank _ c l h]
  rfl
theorem skipT_line {c : UInt8} {l : List UInt8} (h : Lib.indexByte [9, 10, 13, 32] c < 0) (h1 : Lib.hasPrefix (c :: l) [47, 47] = true) :
    skipT (c :: l) = if Lib.indexByte (c :: l) 10 < 0 then (true, []) else skipT ((c :: l).drop (Lib.indexByte (c :: l) 10).toNat) := by
  show skipS ((c :: l).length + 1) (c :: l) = _
  rw [skip_line _ c l h h1]
  split
  · rfl
  · have := ix_line h1 (by omega)
    exact skipT_of (by simp; omega)
theorem skipT_block {c : UInt8} {l : List UInt8} (h : Lib.indexByte [9, 10, 13, 32] c < 0) (h1 : Lib.hasPrefix (c :: l) [47, 47] = false) (h2 : Lib.hasPrefix (c :: l) [47, 42] = true) :
    skipT (c :: l) = if Lib.index ((c :: l).drop 2) [42, 47] < 0 then (false, c :: l) else skipT ((c :: l).drop ((Lib.index ((c :: l).drop 2) [42, 47]).toNat + 4)) := by
  show skipS ((c :: l).length + 1) (c :: l) = _
  rw [skip_block _ c l h h1 h2]
  split
  · rfl
  · exact skipT_of (by simp; omega)
theorem skipT_here {c : UInt8} {l : List UInt8} (h : Lib.indexByte [9, 10, 13, 32] c < 0) (h1 : Lib.hasPrefix (c :: l) [47, 47] = false) (h2 : Lib.hasPrefix (c :: l) [47, 42] = false) : skipT (c :: l) = (true, c :: l) := by
  show skipS ((c :: l).length + 1) (c :: l) = _
  exact skip_here _ c l h h1 h2

/-- The first place does not hang on what stands behind it. -/
theorem indexByte_keep (l r : List UInt8) (c : UInt8) (h : 0 ≤ Lib.indexByte l c) : Lib.indexByte (l.take ((Lib.indexByte l c).toNat + 1) ++ r) c = Lib.indexByte l c := by
  induction l with
  | nil => simp [Lib.indexByte] at h
  | cons a l ih =>
    by_cases ha : (a == c) = true
    · have e : Lib.indexByte (a :: l) c = 0 := by unfold Lib.indexByte; rw [if_pos ha]
      rw [e]
      simp only [Int.toNat_zero, Nat.zero_add, List.take_succ_cons, List.take_zero, List.cons_append, List.nil_append]
      unfold Lib.indexByte
      rw [if_pos ha]
    · have hge := Lib.indexByte_ge l c
      have e : Lib.indexByte (a :: l) c = if Lib.indexByte l c == -1 then -1 else Lib.indexByte l c + 1 := by
        conv => lhs; unfold Lib.indexByte
        rw [if_neg ha]
      by_cases h1 : Lib.indexByte l c = -1
      · rw [e, h1] at h
        simp at h
      · have e2 : Lib.indexByte (a :: l) c = Lib.indexByte l c + 1 := by rw [e, if_neg (by simpa using h1)]
        have ih := ih (by omega)
        rw [e2, show (Lib.indexByte l c + 1).toNat + 1 = ((Lib.indexByte l c).toNat + 1) + 1 by omega, List.take_succ_cons, List.cons_append]
        conv => lhs; unfold Lib.indexByte
        rw [if_neg ha, ih, if_neg (by simpa using h1)]
theorem indexByte_none (l r : List UInt8) (c : UInt8) (h : Lib.indexByte l c < 0) : Lib.indexByte (l ++ c :: r) c = l.length := by
  induction l with
  | nil => simp [Lib.indexByte]
  | cons a l ih =>
    have hge := Lib.indexByte_ge l c
    by_cases ha : (a == c) = true
    · unfold Lib.indexByte at h
      rw [if_pos ha] at h
      omega
    · have e : Lib.indexByte (a :: l) c = if Lib.indexByte l c == -1 then -1 else Lib.indexByte l c + 1 := by
        conv => lhs; unfold Lib.indexByte
        rw [if_neg ha]
      have h1 : Lib.indexByte l c < 0 := by
        rw [e] at h
        split at h
        · rename_i hq
          have : Lib.indexByte l c = -1 := by simpa using hq
          omega
        · omega
      rw [List.cons_append]
      conv => lhs; unfold Lib.indexByte
      rw [if_neg ha, ih h1]
      rw [if_neg (by simp)]
      simp
theorem index_keep (l r sub : List UInt8) (h : 0 ≤ Lib.index l sub) (hs : sub ≠ []) : Lib.index (l.take ((Lib.index l sub).toNat + sub.length) ++ r) sub = Lib.index l sub := by
  have hfit := index_fits l sub h
  have hocc : ∀ x : List UInt8, 0 ≤ Lib.index x sub → Lib.occAt x sub (Lib.index x sub).toNat = true ∧ ∀ j, j < (Lib.index x sub).toNat → Lib.occAt x sub j = false := by
    intro x
    induction x with
    | nil =>
      intro h
      unfold Lib.index at h
      have : sub.isEmpty = false := by cases sub <;> simp_all
      rw [this] at h
      simp at h
    | cons a x ih =>
      intro h
      unfold Lib.index at h ⊢
      split
      · rename_i hp
        exact ⟨by simpa [Lib.occAt] using hp, fun j hj => by simp at hj⟩
      · rename_i hp
        rw [if_neg hp] at h
        split
        · rename_i hq; rw [if_pos hq] at h; omega
        · rename_i hq
          have hge := Lib.index_ge x sub
          have hn : Lib.index x sub ≠ -1 := fun e => hq (by rw [e]; rfl)
          obtain ⟨i1, i2⟩ := ih (by omega)
          rw [show (Lib.index x sub + 1).toNat = (Lib.index x sub).toNat + 1 by omega]
          refine ⟨by simpa [Lib.occAt] using i1, fun j hj => ?_⟩
          cases j with
          | zero =>
            show sub.isPrefixOf (a :: x) = false
            exact Bool.eq_false_iff.2 hp
          | succ j => simpa [Lib.occAt] using i2 j (by omega)
  obtain ⟨h1, h2⟩ := hocc l h
  have hle : (Lib.index l sub).toNat + sub.length ≤ l.length := by omega
  have hpre : ∀ j, j ≤ (Lib.index l sub).toNat → Lib.occAt (l.take ((Lib.index l sub).toNat + sub.length) ++ r) sub j = Lib.occAt l sub j := by
    intro j hj
    unfold Lib.occAt
    rw [Bool.eq_iff_iff, List.isPrefixOf_iff_prefix, List.isPrefixOf_iff_prefix, List.prefix_iff_eq_take, List.prefix_iff_eq_take]
    have e : ((l.take ((Lib.index l sub).toNat + sub.length) ++ r).drop j).take sub.length = (l.drop j).take sub.length := by
      rw [List.drop_append_of_le_length (by simp; omega), List.take_append_of_le_length (by simp; omega), List.drop_take, List.take_take]
      congr 1
      omega
    rw [e]
  have := Lib.index_first (s := l.take ((Lib.index l sub).toNat + sub.length) ++ r) (sub := sub) (i := (Lib.index l sub).toNat) (by simp; omega) (by rw [hpre _ (Nat.le_refl _)]; exact h1) (fun j hj => by rw [hpre j (by omega)]; exact h2 j hj)
  rw [this]
  omega

theorem indexByte_split (l : List UInt8) (c : UInt8) (i : Nat) (h : Lib.indexByte l c = i) : l = l.take i ++ c :: l.drop (i + 1) ∧ Lib.indexByte (l.take i) c < 0 := by
  induction l generalizing i with
  | nil => simp [Lib.indexByte] at h
  | cons a l ih =>
    have hge := Lib.indexByte_ge l c
    by_cases ha : (a == c) = true
    · unfold Lib.indexByte at h
      rw [if_pos ha] at h
      have : i = 0 := by omega
      subst this
      have : a = c := by simpa using ha
      subst this
      exact ⟨by simp, by simp [Lib.indexByte]⟩
    · have e : Lib.indexByte (a :: l) c = if Lib.indexByte l c == -1 then -1 else Lib.indexByte l c + 1 := by
        conv => lhs; unfold Lib.indexByte
        rw [if_neg ha]
      rw [e] at h
      split at h
      · omega
      · rename_i hq
        have hn : Lib.indexByte l c ≠ -1 := fun e => hq (by rw [e]; rfl)
        have hi1 : 1 ≤ i := by omega
        obtain ⟨i, rfl⟩ : ∃ j, i = j + 1 := ⟨i - 1, by omega⟩
        obtain ⟨h1, h2⟩ := ih i (by omega)
        refine ⟨?_, ?_⟩
        · rw [List.take_succ_cons, List.drop_succ_cons, List.cons_append, ← h1]
        · rw [List.take_succ_cons]
          unfold Lib.indexByte
          rw [if_neg ha]
          have := Lib.indexByte_ge (l.take i) c
          rw [if_pos (by have : Lib.indexByte (l.take i) c = -1 := by omega
                         rw [this]; rfl)]
          omega

/-- What is passed over whatever stands behind it. -/
def Skips (g : List UInt8) : Prop := ∀ r, skipT (g ++ r) = skipT r
theorem Skips.nil : Skips [] := fun r => rfl
theorem Skips.append {a b : List UInt8} (h : Skips a) (k : Skips b) : Skips (a ++ b) := fun r => by rw [List.append_assoc, h, k]
theorem Skips.blank {c : UInt8} (h : 0 ≤ Lib.indexByte [9, 10, 13, 32] c) : Skips [c] := fun r => skipT_blank h
theorem Skips.line {c : UInt8} {l : List UInt8} (h : Lib.indexByte [9, 10, 13, 32] c < 0) (h1 : Lib.hasPrefix (c :: l) [47, 47] = true) (h2 : Lib.indexByte (c :: l) 10 < 0) : Skips ((c :: l) ++ [10]) := fun r => by
  obtain ⟨t, ht⟩ := hasPrefix_two h1
  have hp : Lib.hasPrefix (c :: (l ++ 10 :: r)) [47, 47] = true := by
    injection ht with e1 e2
    rw [e1, e2]
    rfl
  have hi := indexByte_none (c :: l) r 10 h2
  rw [List.append_assoc, List.singleton_append, List.cons_append, skipT_line h hp, ← List.cons_append, hi, if_neg (show ¬(((c :: l).length : Nat) : Int) < 0 by omega)]
  simp only [Int.toNat_natCast, List.drop_left]
  exact skipT_blank (by decide)
theorem Skips.closed {c : UInt8} {l : List UInt8} (h : Lib.indexByte [9, 10, 13, 32] c < 0) (h1 : Lib.hasPrefix (c :: l) [47, 47] = false) (h2 : Lib.hasPrefix (c :: l) [47, 42] = true) (h3 : 0 ≤ Lib.index ((c :: l).drop 2) [42, 47]) :
    Skips ((c :: l).take ((Lib.index ((c :: l).drop 2) [42, 47]).toNat + 4)) := fun r => by
  obtain ⟨t, ht⟩ := hasPrefix_two h2
  injection ht with e1 e2
  subst e1 e2
  simp only [List.drop_succ_cons, List.drop_zero] at h3 ⊢
  have hfit := index_fits t _ h3
  have hk := index_keep t r [42, 47] h3 (by simp)
  simp only [List.length_cons, List.length_nil] at hk hfit
  rw [show (Lib.index t [42, 47]).toNat + 4 = ((Lib.index t [42, 47]).toNat + (0 + 1 + 1)) + 2 by omega, List.take_succ_cons, List.take_succ_cons, List.cons_append, List.cons_append]
  rw [skipT_block (by decide) rfl rfl]
  simp only [List.drop_succ_cons, List.drop_zero]
  rw [hk, if_neg (by omega)]
  congr 1
  exact List.drop_left' (by simp; omega)

/-- What skipping does, in parts: what is passed over; where it stops. -/
theorem skipT_parts (n : Nat) (l r : List UInt8) (hn : l.length ≤ n) (h : skipT l = (true, r)) : ∃ g, l = g ++ r ∧ (Skips g ∨ (r = [] ∧ Skips (g ++ [10]))) ∧ skipT r = (true, r) := by
  induction n generalizing l with
  | zero =>
    have : l = [] := List.eq_nil_of_length_eq_zero (by omega)
    subst this
    rw [skipT_nil] at h
    injection h with _ h
    subst h
    exact ⟨[], rfl, .inl Skips.nil, rfl⟩
  | succ n ih =>
    cases l with
    | nil =>
      rw [skipT_nil] at h
      injection h with _ h
      subst h
      exact ⟨[], rfl, .inl Skips.nil, rfl⟩
    | cons c l =>
      simp only [List.length_cons] at hn
      by_cases hb : 0 ≤ Lib.indexByte [9, 10, 13, 32] c
      · rw [skipT_blank hb] at h
        obtain ⟨g, e, hg, hs⟩ := ih l (by omega) h
        refine ⟨c :: g, by rw [e]; rfl, ?_, hs⟩
        rcases hg with hg | ⟨e2, hg⟩
        · exact .inl ((Skips.blank hb).append hg)
        · exact .inr ⟨e2, (Skips.blank hb).append hg⟩
      · have hb : Lib.indexByte [9, 10, 13, 32] c < 0 := by omega
        cases h1 : Lib.hasPrefix (c :: l) [47, 47]
        · cases h2 : Lib.hasPrefix (c :: l) [47, 42]
          · rw [skipT_here hb h1 h2] at h
            injection h with _ h
            subst h
            exact ⟨[], rfl, .inl Skips.nil, skipT_here hb h1 h2⟩
          · rw [skipT_block hb h1 h2] at h
            split at h
            · injection h with h _; cases h
            · rename_i h3
              have hs3 := Skips.closed hb h1 h2 (by omega)
              have hle : ((c :: l).drop ((Lib.index ((c :: l).drop 2) [42, 47]).toNat + 4)).length ≤ n := by simp; omega
              obtain ⟨g, e, hg, hs⟩ := ih _ hle h
              refine ⟨(c :: l).take ((Lib.index ((c :: l).drop 2) [42, 47]).toNat + 4) ++ g, ?_, ?_, hs⟩
              · rw [List.append_assoc, ← e, List.take_append_drop]
              · rcases hg with hg | ⟨e2, hg⟩
                · exact .inl (hs3.append hg)
                · exact .inr ⟨e2, by rw [List.append_assoc]; exact hs3.append hg⟩
        · rw [skipT_line hb h1] at h
          split at h
          · rename_i h2
            injection h with _ h
            subst h
            exact ⟨c :: l, by simp, .inr ⟨rfl, Skips.line hb h1 h2⟩, rfl⟩
          · rename_i h2
            have h1' := ix_line h1 (by omega)
            have hlt := ix_pos (c :: l) 10
            obtain ⟨i, hi⟩ : ∃ i : Nat, Lib.indexByte (c :: l) 10 = i := ⟨(Lib.indexByte (c :: l) 10).toNat, by omega⟩
            rw [hi] at h h1' hlt h2
            simp only [Int.toNat_natCast, List.length_cons] at h hlt
            obtain ⟨hsp, hno⟩ := indexByte_split _ _ _ hi
            obtain ⟨t, ht⟩ := hasPrefix_two h1
            have hi2 : 2 ≤ i := by
              rcases Nat.lt_or_ge i 2 with hlt2 | hge2
              · have : i = 1 := by omega
                subst this
                rw [ht] at hsp
                simp at hsp
              · exact hge2
            obtain ⟨j, rfl⟩ : ∃ j, i = j + 2 := ⟨i - 2, by omega⟩
            have hdr : (c :: l).drop (j + 2) = 10 :: (c :: l).drop (j + 2 + 1) := by
              have hz : ((c :: l).take (j + 2)).length = j + 2 := by simp; omega
              have h2 : ((c :: l).take (j + 2) ++ 10 :: (c :: l).drop (j + 2 + 1)).drop (j + 2) = 10 :: (c :: l).drop (j + 2 + 1) := List.drop_left' hz
              exact (congrArg (List.drop (j + 2)) hsp).trans h2
            rw [hdr, skipT_blank (by decide)] at h
            have hle : ((c :: l).drop (j + 2 + 1)).length ≤ n := by simp; omega
            obtain ⟨g, e, hg, hs⟩ := ih _ hle h
            have hsk : Skips ((c :: l).take (j + 2) ++ [10]) := by
              rw [ht] at hno ⊢
              simp only [List.take_succ_cons] at hno ⊢
              exact Skips.line (by decide) rfl hno
            refine ⟨(c :: l).take (j + 2) ++ [10] ++ g, ?_, ?_, hs⟩
            · rw [List.append_assoc, List.append_assoc, ← e, List.singleton_append]
              exact hsp
            · rcases hg with hg | ⟨e2, hg⟩
              · exact .inl (hsk.append hg)
              · exact .inr ⟨e2, by rw [List.append_assoc]; exact hsk.append hg⟩
end Go.Proofs.YtnhmgjochmollaaGreatDoor

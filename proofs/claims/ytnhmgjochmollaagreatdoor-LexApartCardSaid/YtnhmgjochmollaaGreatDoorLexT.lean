/- Contract of the kit's Pick; and what LexBlanks builds, as plain functions; the order in which tokens stand. -/
import Derived.Test.YtnhmgjochmollaaGreatDoorLexS
namespace Go.Proofs.YtnhmgjochmollaaGreatDoor
open Go.RowKit Go.Proofs.YtnhmgjochmollaaGreatDoorW.PrintWords
set_option linter.unusedSimpArgs false
set_option linter.unusedVariables false

/-- A number from 0 to n - 1 that any number says. -/
def pickN (x : Int) (n : Nat) : Nat := ((x.tmod n + n).tmod n).toNat
theorem pick_calls (x : Int) (n : Nat) (w : World) (h0 : 1 ≤ n) (h1 : n ≤ 1000000) :
    Calls Tryz.prog 11 #[.int .i64 x, .int .i64 n] w fun e' w' => e' = .returned (.int .i64 (pickN x n)) ∧ w = w' := by
  have hb1 : Int.tmod x n < n := Int.tmod_lt_of_pos x (by omega)
  have hb2 : -(n : Int) < Int.tmod x n := by
    have h := Int.tmod_lt_of_pos (-x) (show (0 : Int) < n by omega)
    rw [Int.neg_tmod] at h
    omega
  have hb3 := Int.tmod_nonneg (a := Int.tmod x n + n) n (by omega)
  have hb4 := Int.tmod_lt_of_pos (Int.tmod x n + n) (show (0 : Int) < n by omega)
  have hw1 : wrap64 (Int.tmod x n) = Int.tmod x n := by unfold wrap64; omega
  have hw2 : wrap64 (Int.tmod x n + n) = Int.tmod x n + n := by unfold wrap64; omega
  have hw3 : wrap64 (Int.tmod (Int.tmod x n + n) n) = Int.tmod (Int.tmod x n + n) n := by unfold wrap64; omega
  have hp : ((pickN x n : Nat) : Int) = Int.tmod (Int.tmod x n + n) n := by unfold pickN; omega
  rw [hp]
  have hn0 : ((n : Int) == 0) = false := beq_eq_false_iff_ne.2 (by omega)
  have hn1 : ((n : Int) < 1) = False := by simp; omega
  clear hp hb1 hb2 hb3 hb4
  go_enter Tryz.func11, Tryz.ntmps11
  go_wp2
  go_ret
  exact ⟨rfl, rfl⟩

/-- Tokens in order from a place on, within n bytes. -/
def Chain (n : Nat) : Nat → List Tok → Prop
  | e, [] => e ≤ n
  | e, t :: ts => ∃ a z : Nat, t.at_ = a ∧ t.size = z ∧ e ≤ a ∧ 1 ≤ z ∧ a + z ≤ n ∧ Chain n (a + z) ts
theorem Chain.le {n e : Nat} {ts : List Tok} (h : Chain n e ts) : e + ts.length ≤ n := by
  induction ts generalizing e with
  | nil => exact h
  | cons t ts ih =>
    obtain ⟨a, z, _, _, h1, h2, h3, h4⟩ := h
    have := ih h4
    simp
    omega
theorem readS_at {n : Nat} {c : UInt8} {l : List UInt8} {t : Tok} (h : readS n (c :: l) = .ok t) : t.at_ = n - (c :: l).length := by
  cases hL : letB (c.toNat : Int)
  · cases hD : digB (c.toNat : Int)
    · by_cases hq : c = 39 ∨ c = 34
      · rw [readS_quoted n c l hq] at h
        cases hs : quotedS c (l.length + 1) l with
        | gone => simp [quotedR, hs] at h
        | bad r => simp [quotedR, hs] at h
        | done bs r =>
          rw [quotedR_done hs] at h
          unfold quotedT at h
          split at h
          · injection h with h; rw [← h]
          · split at h
            · injection h with h; rw [← h]
            · cases h
      · rw [readS_sign n c l hL hD hq] at h
        split at h
        · cases h
        · injection h with h; rw [← h]
    · rw [readS_number n c l hD] at h
      unfold numberS at h
      split at h
      · cases h
      · split at h
        · cases h
        · split at h
          · injection h with h; rw [← h]
          · cases h
  · rw [readS_word n c l hL] at h
    injection h with h; rw [← h]
theorem scanS_chain {n f : Nat} {r : List UInt8} {acc ts : List Tok} (hr : r.length ≤ n) (h : scanS n f r acc = .ok ts) : ∃ us, ts = acc ++ us ∧ Chain n (n - r.length) us := by
  induction f generalizing r acc with
  | zero =>
    simp only [scanS, Except.ok.injEq] at h
    exact ⟨[], by simp [h], Nat.sub_le _ _⟩
  | succ f ih =>
    cases r with
    | nil =>
      simp only [scanS, Except.ok.injEq] at h
      exact ⟨[], by simp [h], Nat.sub_le _ _⟩
    | cons c l =>
      cases hq : readS n (c :: l) with
      | error q => rw [scanS_err hq] at h; cases h
      | ok t =>
        obtain ⟨z, hz, h1, h2⟩ := readS_size hq
        obtain ⟨⟨b, r'⟩, hk⟩ : ∃ K, skipS (l.length + 2) ((c :: l).drop z) = K := ⟨_, rfl⟩
        cases b
        · rw [scanS_gone hq hz r' hk] at h; cases h
        · rw [scanS_ok hq hz r' hk] at h
          have hs := (skipS_suffix (l.length + 2) ((c :: l).drop z)).length_le
          rw [hk] at hs
          simp at hs hr
          obtain ⟨us, rfl, hc⟩ := ih (by omega) h
          refine ⟨t :: us, by simp, n - (l.length + 1), z, ?_, hz, by simp, h1, by omega, ?_⟩
          · rw [readS_at hq]; simp; omega
          · cases us with
            | nil => simp only [Chain] at hc ⊢; omega
            | cons u us =>
              obtain ⟨a', z', e1, e2, e3, e4, e5, e6⟩ := hc
              exact ⟨a', z', e1, e2, by omega, e4, e5, e6⟩
theorem scanOf_chain {l : List UInt8} {ts : List Tok} (h : scanOf l = .ok ts) : Chain l.length 0 ts := by
  unfold scanOf at h
  split at h
  · cases h
  · split at h
    · cases h
    · rename_i hk
      have hs := (skipS_suffix (l.length + 1) l).length_le
      rw [hk] at hs
      obtain ⟨us, hu, hc⟩ := scanS_chain hs h
      rw [show ts = us by simpa using hu]
      clear hu h
      cases us with
      | nil => exact Nat.zero_le _
      | cons u us =>
        obtain ⟨a', z', e1, e2, e3, e4, e5, e6⟩ := hc
        exact ⟨a', z', e1, e2, by omega, e4, e5, e6⟩

/-! ### What LexBlanks builds -/
def allB : List (List UInt8) := [[], [32], [10], [32, 47, 42, 32, 97, 32, 42, 47], [9, 47, 47, 32, 98, 10], [9, 13]]
/-- What is laid in at the k-th place. -/
def extra (xs : List Int) (k : Nat) : List UInt8 := if k < xs.length then allB.getD (pickN (xs.getD k 0) 6) [] else []
theorem extra_len (xs : List Int) (k : Nat) : (extra xs k).length ≤ 8 := by
  unfold extra
  split
  · have : ∀ l ∈ allB, l.length ≤ 8 := by decide
    rw [List.getD_eq_getElem?_getD]
    cases h : allB[pickN (xs.getD k 0) 6]? with
    | none => simp
    | some y => exact this y (List.mem_of_getElem? h)
  · simp
/-- The wider source, and its tokens: the source's tokens ts from the k-th on, from the place e on. -/
def widen (src : List UInt8) (xs : List Int) : Nat → Nat → List UInt8 → List Tok → List Tok → List UInt8 × List Tok
  | k, e, wide, want, [] => (wide ++ src.drop e ++ (if e < src.length then [10] else []) ++ extra xs k, want)
  | k, e, wide, want, t :: ts => widen src xs (k + 1) (t.at_.toNat + t.size.toNat)
      (wide ++ (src.drop e).take (t.at_.toNat - e) ++ extra xs k ++ (src.drop t.at_.toNat).take t.size.toNat)
      (want ++ [{ t with at_ := ((wide ++ (src.drop e).take (t.at_.toNat - e) ++ extra xs k).length : Nat) }]) ts
end Go.Proofs.YtnhmgjochmollaaGreatDoor

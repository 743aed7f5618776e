/- The law of LexApart in plain Lean: each token, scanned alone, is that token; what is between two of them is none; an error's place lies in the source. -/
import Derived.Test.YtnhmgjochmollaaGreatDoorLexX
namespace Go.Proofs.YtnhmgjochmollaaGreatDoor
open Go.RowKit
set_option linter.unusedSimpArgs false
set_option linter.unusedVariables false

/-- From the place e on: each piece between tokens has none, each token alone is itself. -/
def ApartS (src : List UInt8) : Nat → List Tok → Prop
  | e, [] => scanOf (src.drop e) = .ok []
  | e, t :: ts => scanOf ((src.drop e).take (t.at_.toNat - e)) = .ok [] ∧ scanOf ((src.drop t.at_.toNat).take t.size.toNat) = .ok [{ t with at_ := 0 }] ∧ ApartS src (t.at_.toNat + t.size.toNat) ts

theorem scan_gap {g : List UInt8} (hl : g.length ≤ 4000) (h : Skips g) : scanOf g = .ok [] := by
  have := h []
  rw [List.append_nil, skipT_nil] at this
  exact scanOf_make hl this .nil
theorem scan_token {x l : List UInt8} {n : Nat} {t : Tok} (hl : x.length ≤ 4000) (h0 : x ≠ []) (hq : readS n (x ++ l) = .ok t) (hz : t.size = x.length) (hst : skipT (x ++ l) = (true, x ++ l)) : scanOf x = .ok [{ t with at_ := 0 }] := by
  have hal : Alike l [] := .inr (fun c hc => by simp at hc)
  have hs := stop_swap h0 hst hal
  have hr := readS_swap (n2 := x.length) h0 hq hz hal
  rw [List.append_nil] at hs
  refine scanOf_make hl hs ?_
  have := Scans.cons (n := x.length) x [] [] { t with at_ := 0 } [] h0 (by rw [hr]; simp) hz (by rw [List.append_nil]; exact hs) skipT_nil .nil
  rwa [List.append_nil] at this
theorem apart_law (src : List UInt8) (hsrc : src.length ≤ 4000) (ts : List Tok) : ∀ (e : Nat) (l r : List UInt8), src.drop e = l → e ≤ src.length → skipT l = (true, r) → Scans src.length r ts → ApartS src e ts := by
  induction ts with
  | nil =>
    intro e l r hl he hk hs
    cases hs
    unfold ApartS
    rw [hl]
    exact scanOf_make (by rw [← hl]; simp; omega) hk .nil
  | cons t ts ih =>
    intro e l r hl he hk hs
    cases hs with
    | cons x l1 r1 _ _ h0 hq hz hst hk1 hs1 =>
      obtain ⟨g, hg, hgs, _⟩ := skipT_parts _ _ _ (Nat.le_refl _) hk
      have hgs : Skips g := by
        rcases hgs with h | ⟨h, _⟩
        · exact h
        · exact absurd h (by simp [h0])
      have hlen : l.length = src.length - e := by rw [← hl]; simp
      have hglen : l.length = g.length + (x.length + l1.length) := by rw [hg]; simp
      have hat : t.at_.toNat = e + g.length := by
        obtain ⟨c, x', rfl⟩ : ∃ c x', x = c :: x' := by
          cases x with
          | nil => exact absurd rfl h0
          | cons c x' => exact ⟨c, x', rfl⟩
        rw [List.cons_append] at hq
        rw [readS_at hq]
        simp at hglen ⊢
        omega
      have hszn : t.size.toNat = x.length := by rw [hz]; simp
      have ha : src.drop (e + g.length) = x ++ l1 := by
        rw [← List.drop_drop, hl, hg]
        exact List.drop_left' rfl
      have hb : src.drop (e + g.length + x.length) = l1 := by
        rw [← List.drop_drop, ha]
        exact List.drop_left' rfl
      have hx0 : 0 < x.length := by cases x with
        | nil => exact absurd rfl h0
        | cons c x' => simp
      refine ⟨?_, ?_, ?_⟩
      · rw [hl, hat, show e + g.length - e = g.length by omega, hg, List.take_left' rfl]
        exact scan_gap (by omega) hgs
      · rw [hat, hszn, ha, List.take_left' rfl]
        exact scan_token (by omega) h0 hq hz hst
      · rw [hat, hszn]
        exact ih (e + g.length + x.length) l1 r1 hb (by omega) hk1 hs1
theorem apart_of {src : List UInt8} {ts : List Tok} (h : scanOf src = .ok ts) : ApartS src 0 ts := by
  obtain ⟨hl, r, hk, hs⟩ := scanOf_parts h
  exact apart_law src hl ts 0 src r rfl (Nat.zero_le _) hk hs

/-! ### An error's place -/
theorem skipS_false (f : Nat) (l : List UInt8) {r : List UInt8} (h : skipS f l = (false, r)) : 1 ≤ r.length := by
  induction f generalizing l with
  | zero => simp [skipS] at h
  | succ f ih =>
    cases l with
    | nil => simp [skipS] at h
    | cons c l =>
      rw [skipS] at h
      split at h
      · exact ih _ h
      · split at h
        · exact ih _ h
        · split at h
          · split at h
            · injection h with _ h
              rw [← h]
              simp
            · exact ih _ h
          · injection h with h _
            cases h
theorem quotedS_bad (q : UInt8) (f : Nat) (l : List UInt8) {r : List UInt8} (h : quotedS q f l = .bad r) : r <:+ l ∧ 1 ≤ r.length := by
  induction f generalizing l with
  | zero => simp [quotedS] at h
  | succ f ih =>
    cases l with
    | nil => simp [quotedS] at h
    | cons c l =>
      rw [quotedS] at h
      split at h
      · cases h
      · split at h
        · injection h with h
          rw [← h]
          exact ⟨List.suffix_refl _, by simp⟩
        · cases hq : quotedS q f ((c :: l).drop (piece c l).2) with
          | done bs' r' => rw [hq] at h; cases h
          | bad r' =>
            rw [hq] at h
            injection h with h
            subst h
            obtain ⟨h1, h2⟩ := ih _ hq
            exact ⟨h1.trans (List.drop_suffix _ _), h2⟩
          | gone => rw [hq] at h; cases h
theorem readS_place {n : Nat} {c : UInt8} {l : List UInt8} {p : Int × Int} (hn : l.length + 1 ≤ n) (h : readS n (c :: l) = .error p) : 0 ≤ p.2 ∧ p.2 < n := by
  have key : ∀ a : Int × Int, a.2 = (n : Int) - (c :: l).length → 0 ≤ a.2 ∧ a.2 < n := by
    intro a ha
    rw [ha]
    simp
    omega
  cases hL : letB (c.toNat : Int)
  · cases hD : digB (c.toNat : Int)
    · by_cases hq : c = 39 ∨ c = 34
      · rw [readS_quoted n c l hq] at h
        cases hs : quotedS c (l.length + 1) l with
        | gone =>
          unfold quotedR at h
          rw [hs] at h
          injection h with h
          exact key p (by rw [← h])
        | bad r =>
          unfold quotedR at h
          rw [hs] at h
          injection h with h
          rw [← h]
          obtain ⟨h1, h2⟩ := quotedS_bad _ _ _ hs
          have := h1.length_le
          simp only
          omega
        | done bs r =>
          rw [quotedR_done hs] at h
          unfold quotedT at h
          split at h
          · cases h
          · split at h
            · cases h
            · injection h with h
              exact key p (by rw [← h])
      · rw [readS_sign n c l hL hD hq] at h
        split at h
        · injection h with h
          exact key p (by rw [← h])
        · cases h
    · rw [readS_number n c l hD] at h
      unfold numberS at h
      split at h
      · injection h with h
        exact key p (by rw [← h])
      · split at h
        · injection h with h
          exact key p (by rw [← h])
        · split at h
          · cases h
          · injection h with h
            exact key p (by rw [← h])
  · rw [readS_word n c l hL] at h
    cases h
theorem scanS_place {n f : Nat} {r : List UInt8} {acc : List Tok} {p : Int × Int} (hr : r.length ≤ n) (h : scanS n f r acc = .error p) : 0 ≤ p.2 ∧ p.2 < n := by
  induction f generalizing r acc with
  | zero => simp [scanS] at h
  | succ f ih =>
    cases r with
    | nil => simp [scanS] at h
    | cons c l =>
      cases hq : readS n (c :: l) with
      | error q =>
        rw [scanS_err hq] at h
        injection h with h
        rw [← h]
        exact readS_place hr hq
      | ok t =>
        obtain ⟨z, hz, h1, h2⟩ := readS_size hq
        obtain ⟨⟨b, r'⟩, hk⟩ : ∃ K, skipS (l.length + 2) ((c :: l).drop z) = K := ⟨_, rfl⟩
        have hs := (skipS_suffix (l.length + 2) ((c :: l).drop z)).length_le
        rw [hk] at hs
        simp at hs hr
        cases b
        · rw [scanS_gone hq hz r' hk] at h
          injection h with h
          have := skipS_false _ _ hk
          rw [← h]
          simp only
          omega
        · rw [scanS_ok hq hz r' hk] at h
          exact ih (by omega) h
theorem scanOf_place {l : List UInt8} {p : Int × Int} (hl : l.length ≤ 4000) (h : scanOf l = .error p) : 0 ≤ p.2 ∧ p.2 < l.length := by
  obtain ⟨⟨b, r⟩, hk⟩ : ∃ K, skipS (l.length + 1) l = K := ⟨_, rfl⟩
  have hs := (skipS_suffix (l.length + 1) l).length_le
  rw [hk] at hs
  simp at hs
  cases b
  · rw [scanOf_false hl hk] at h
    injection h with h
    have := skipS_false _ _ hk
    rw [← h]
    simp only
    omega
  · rw [scanOf_true hl hk] at h
    exact scanS_place hs h
end Go.Proofs.YtnhmgjochmollaaGreatDoor

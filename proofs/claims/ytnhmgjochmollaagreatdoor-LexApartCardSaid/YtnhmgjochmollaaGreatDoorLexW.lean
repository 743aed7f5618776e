/- A token's reading does not hang on what stands behind it, but for the first byte; and a stop of the skipping neither. In plain Lean. -/
import Derived.Test.YtnhmgjochmollaaGreatDoorLexV
namespace Go.Proofs.YtnhmgjochmollaaGreatDoor
open Go.RowKit
set_option linter.unusedSimpArgs false
set_option linter.unusedVariables false

theorem escape_far (a b : UInt8) (p r r2 : List UInt8) (h : (escapeOf (a :: b :: (p ++ r))).2 ≠ 0) (hl : (escapeOf (a :: b :: (p ++ r))).2 ≤ p.length + 2) : escapeOf (a :: b :: (p ++ r2)) = escapeOf (a :: b :: (p ++ r)) := by
  by_cases hb : b = 120
  · subst hb
    match p with
    | x :: y :: p => rfl
    | [] =>
      exfalso
      simp only [List.nil_append, List.length_nil, escapeOf] at h hl
      rw [if_neg (by decide)] at h hl
      cases r with
      | nil => exact h rfl
      | cons x r =>
        cases r with
        | nil => exact h rfl
        | cons y r =>
          simp only at h hl
          split at h
          · rename_i hc
            rw [if_pos hc] at hl
            split at h
            · rename_i he
              rw [he] at hl
              simp at hl
            · exact h rfl
          · exact h rfl
    | [x] =>
      exfalso
      simp only [List.singleton_append, List.length_singleton, escapeOf] at h hl
      rw [if_neg (by decide)] at h hl
      cases r with
      | nil => exact h rfl
      | cons y r =>
        simp only at h hl
        split at h
        · rename_i hc
          rw [if_pos hc] at hl
          split at h
          · rename_i he
            rw [he] at hl
            simp at hl
          · exact h rfl
        · exact h rfl
  · simp only [escapeOf, if_pos hb]
theorem escape_one_byte (a : UInt8) (r : List UInt8) (h : (escapeOf (a :: r)).2 ≠ 0) : 2 ≤ (escapeOf (a :: r)).2 := by
  cases r with
  | nil => exact absurd rfl h
  | cons b r =>
    by_cases hb : b = 120
    · subst hb
      simp only [escapeOf] at h ⊢
      rw [if_neg (by decide)] at h ⊢
      split at h
      · split at h
        · rename_i hc
          rw [if_pos hc]
          split at h
          · simp
          · exact absurd rfl h
        · exact absurd rfl h
      · exact absurd rfl h
    · simp only [escapeOf, if_pos hb] at h ⊢
      split at h
      · simp
      · exact absurd rfl h
theorem piece_swap (c : UInt8) (p r r2 : List UInt8) (h : (piece c (p ++ r)).2 ≠ 0) (hl : (piece c (p ++ r)).2 ≤ p.length + 1) : piece c (p ++ r2) = piece c (p ++ r) := by
  unfold piece at h hl ⊢
  by_cases hc : c = 92
  · simp only [if_pos hc] at h hl ⊢
    cases p with
    | nil =>
      simp only [List.nil_append, List.length_nil] at h hl
      have := escape_one_byte c r h
      omega
    | cons b p =>
      simp only [List.cons_append] at h hl ⊢
      exact escape_far c b p r r2 h (by simpa using hl)
  · simp only [if_neg hc]
theorem piece_pos (c : UInt8) (l : List UInt8) : (piece c l).2 ≠ 0 → 1 ≤ (piece c l).2 := fun h => by omega

theorem quotedS_head {q : UInt8} {f : Nat} {l bs r : List UInt8} (h : quotedS q f l = .done bs r) : r.head? = some q := by
  induction f generalizing l bs with
  | zero => simp [quotedS] at h
  | succ f ih =>
    cases l with
    | nil => simp [quotedS] at h
    | cons c l =>
      rw [quotedS] at h
      split at h
      · rename_i hc
        injection h with _ h
        rw [← h, hc]
        rfl
      · split at h
        · cases h
        · cases hq : quotedS q f ((c :: l).drop (piece c l).2) with
          | done bs' r' =>
            rw [hq] at h
            injection h with _ h
            subst h
            exact ih hq
          | bad r' => rw [hq] at h; cases h
          | gone => rw [hq] at h; cases h
theorem quotedS_swap {q : UInt8} {f : Nat} {p r bs r2 : List UInt8} (h : quotedS q f (p ++ r) = .done bs r) (h2 : r2.head? = some q) (g : Nat) (hg : (p ++ r2).length < g) : quotedS q g (p ++ r2) = .done bs r2 := by
  induction f generalizing p bs g with
  | zero => simp [quotedS] at h
  | succ f ih =>
    obtain ⟨g, rfl⟩ : ∃ g', g = g' + 1 := ⟨g - 1, by omega⟩
    cases p with
    | nil =>
      simp only [List.nil_append] at h hg ⊢
      cases r with
      | nil => simp [quotedS] at h
      | cons c r =>
        rw [quotedS] at h
        split at h
        · rename_i hc
          injection h with h _
          subst h
          cases r2 with
          | nil => simp at h2
          | cons d r2 =>
            simp at h2
            subst h2
            exact quoted_end d g r2
        · split at h
          · cases h
          · rename_i hm
            cases hq : quotedS q f ((c :: r).drop (piece c r).2) with
            | done bs' r' =>
              rw [hq] at h
              injection h with _ h
              subst h
              have := (quotedS_suffix _ _ _ hq).1.length_le
              simp at this
              omega
            | bad r' => rw [hq] at h; cases h
            | gone => rw [hq] at h; cases h
    | cons c p =>
      simp only [List.cons_append, List.length_cons, List.length_append] at h hg ⊢
      rw [quotedS] at h
      split at h
      · injection h with _ h
        have := congrArg List.length h
        simp at this
        omega
      · rename_i hc
        split at h
        · cases h
        · rename_i hm
          cases hq : quotedS q f ((c :: (p ++ r)).drop (piece c (p ++ r)).2) with
          | done bs' r' =>
            rw [hq] at h
            injection h with hb h
            subst h
            have hle := (quotedS_suffix _ _ _ hq).1.length_le
            simp only [List.length_drop, List.length_cons, List.length_append] at hle
            have hm1 : (piece c (p ++ r')).2 ≤ p.length + 1 := by
              have h1 := (quotedS_suffix _ _ _ hq).2
              omega
            have hd : (c :: (p ++ r')).drop (piece c (p ++ r')).2 = (c :: p).drop (piece c (p ++ r')).2 ++ r' := by
              rw [← List.cons_append, List.drop_append_of_le_length (by simpa using hm1)]
            have hd2 : (c :: (p ++ r2)).drop (piece c (p ++ r')).2 = (c :: p).drop (piece c (p ++ r')).2 ++ r2 := by
              rw [← List.cons_append, List.drop_append_of_le_length (by simpa using hm1)]
            rw [hd] at hq
            have hi := ih hq g (by simp; omega)
            rw [quoted_more q g c _ hc (by rw [piece_swap c p r' r2 hm hm1]; exact hm), piece_swap c p r' r2 hm hm1, hd2, hi]
            simp only [Quoted.onto, List.singleton_append]
            rw [hb]
          | bad r' => rw [hq] at h; cases h
          | gone => rw [hq] at h; cases h

theorem numberS_place {a b : Int} {x : List UInt8} {t : Tok} (h : numberS a x = .ok t) : numberS b x = .ok { t with at_ := b } := by
  unfold numberS at h ⊢
  cases hs : suffixOf (splitOf x).2.2 with
  | none => rw [hs] at h; cases h
  | some s =>
    rw [hs] at h
    simp only at h ⊢
    by_cases hd : (splitOf x).2.1 = []
    · rw [if_pos hd] at h; cases h
    · rw [if_neg hd] at h ⊢
      rcases hp : pu (splitOf x).1.toNat 18446744073709551615 0 (splitOf x).2.1 with v | _ | _
      ·
        rw [hp] at h
        simp only at h ⊢
        injection h with h
        rw [← h]
      · rw [hp] at h; cases h
      · rw [hp] at h; cases h
theorem quotedT_place {a b : Int} {q : UInt8} {z : Nat} {bs : List UInt8} {t : Tok} (h : quotedT a q z bs = .ok t) : quotedT b q z bs = .ok { t with at_ := b } := by
  unfold quotedT at h ⊢
  by_cases hq : q = 34
  · rw [if_pos hq] at h ⊢
    injection h with h
    rw [← h]
  · rw [if_neg hq] at h ⊢
    match bs, h with
    | [c], h =>
      simp only at h ⊢
      injection h with h
      rw [← h]
/-- A TOKEN'S READING: the bytes x are a token's, whatever stands behind them. -/
theorem readS_swap {n n2 : Nat} {x r r2 : List UInt8} {t : Tok} (h0 : x ≠ []) (h : readS n (x ++ r) = .ok t) (hz : t.size = x.length) (hr : Alike r r2) : readS n2 (x ++ r2) = .ok { t with at_ := n2 - (x ++ r2).length } := by
  obtain ⟨c, x', rfl⟩ : ∃ c x', x = c :: x' := by
    cases x with
    | nil => exact absurd rfl h0
    | cons c x' => exact ⟨c, x', rfl⟩
  rw [List.cons_append] at h ⊢
  cases hL : letB (c.toNat : Int)
  · cases hD : digB (c.toNat : Int)
    · by_cases hq : c = 39 ∨ c = 34
      · rw [readS_quoted n c _ hq] at h
        rw [readS_quoted n2 c _ hq]
        cases hs : quotedS c ((x' ++ r).length + 1) (x' ++ r) with
        | gone => unfold quotedR at h; rw [hs] at h; cases h
        | bad r' => unfold quotedR at h; rw [hs] at h; cases h
        | done bs r' =>
          rw [quotedR_done hs] at h
          have hz' := quotedT_size h
          obtain ⟨hsuf, hlen⟩ := quotedS_suffix _ _ _ hs
          have hhead := quotedS_head hs
          have hle := hsuf.length_le
          have e1 : r'.length = r.length + 1 := by
            rw [hz] at hz'
            simp only [List.length_cons, List.length_append] at hz' hle
            omega
          -- r' is the closing quote and r
          have e2 : ∃ p, x' = p ++ [c] ∧ r' = c :: r := by
            have hd := List.suffix_iff_eq_drop.1 hsuf
            have hx1 : 1 ≤ x'.length := by simp only [List.length_append] at hle; omega
            rw [e1, show (x' ++ r).length - (r.length + 1) = x'.length - 1 by simp; omega, List.drop_append_of_le_length (by omega)] at hd
            have hl1 : (x'.drop (x'.length - 1)).length = 1 := by simp; omega
            match hm : x'.drop (x'.length - 1), hl1 with
            | [d], _ =>
              rw [hm] at hd
              rw [hd] at hhead
              simp at hhead
              subst hhead
              exact ⟨x'.take (x'.length - 1), by rw [← hm, List.take_append_drop], hd⟩
          obtain ⟨p, rfl, rfl⟩ := e2
          have hs' : quotedS c ((p ++ [c] ++ r).length + 1) (p ++ (c :: r)) = .done bs (c :: r) := by
            rw [show p ++ c :: r = p ++ [c] ++ r by simp]
            exact hs
          have h2 := quotedS_swap (r2 := c :: r2) hs' rfl ((p ++ [c] ++ r2).length + 1) (by simp)
          rw [show p ++ c :: r2 = p ++ [c] ++ r2 by simp] at h2
          rw [quotedR_done h2]
          have e3 : (p ++ [c] ++ r2).length + 1 - (c :: r2).length = (p ++ [c] ++ r).length + 1 - (c :: r).length := by simp; omega
          rw [e3]
          exact quotedT_place h
      · rw [readS_sign n c _ hL hD hq] at h
        rw [readS_sign n2 c _ hL hD hq]
        split at h
        · cases h
        · rename_i hs0
          injection h with h
          have hs : signLen (c :: x' ++ r) = (c :: x').length := by
            have := congrArg Tok.size h
            simp only at this
            rw [hz] at this
            exact_mod_cast this
          have hs2 := sign_swap h0 hs hr
          rw [List.cons_append] at hs hs2
          rw [hs2, if_neg (by simp), ← h]
          simp only
          rw [hs]
          congr 2
          rw [← List.cons_append, ← List.cons_append, List.take_left', List.take_left'] <;> rfl
    · rw [readS_number n c _ hD] at h
      rw [readS_number n2 c _ hD]
      have hs := numberS_size h
      rw [List.length_take, Nat.min_eq_left (runLen_le _), hz] at hs
      have hs1 : runLen (c :: x' ++ r) = (c :: x').length := by
        rw [List.cons_append]
        exact_mod_cast hs.symm
      have hs2 := runLen_swap hs1 hr
      rw [List.cons_append] at hs1 hs2
      rw [hs1] at h
      rw [hs2]
      rw [← List.cons_append, List.take_left' rfl] at h ⊢
      exact numberS_place h
  · rw [readS_word n c _ hL] at h
    rw [readS_word n2 c _ hL]
    injection h with h
    have hs1 : runLen (c :: x' ++ r) = (c :: x').length := by
      have := congrArg Tok.size h
      simp only at this
      rw [hz] at this
      exact_mod_cast this
    have hs2 := runLen_swap hs1 hr
    rw [List.cons_append] at hs1 hs2
    rw [hs2, ← h]
    simp only
    rw [hs1]
    rw [← List.cons_append, ← List.cons_append, List.take_left' rfl, List.take_left' rfl]

theorem stop_swap {x r r2 : List UInt8} (h0 : x ≠ []) (h : skipT (x ++ r) = (true, x ++ r)) (hr : Alike r r2) : skipT (x ++ r2) = (true, x ++ r2) := by
  obtain ⟨c, x', rfl⟩ : ∃ c x', x = c :: x' := by
    cases x with
    | nil => exact absurd rfl h0
    | cons c x' => exact ⟨c, x', rfl⟩
  rw [List.cons_append] at h ⊢
  have hb : Lib.indexByte [9, 10, 13, 32] c < 0 := by
    rcases Int.lt_or_le (Lib.indexByte [9, 10, 13, 32] c) 0 with h1 | h1
    · exact h1
    · rw [skipT_blank h1] at h
      have := (skipS_suffix ((x' ++ r).length + 1) (x' ++ r)).length_le
      rw [show skipS ((x' ++ r).length + 1) (x' ++ r) = skipT (x' ++ r) from rfl, h] at this
      simp at this
      omega
  have h1 : Lib.hasPrefix (c :: (x' ++ r)) [47, 47] = false := by
    cases h1 : Lib.hasPrefix (c :: (x' ++ r)) [47, 47]
    · rfl
    · rw [skipT_line hb h1] at h
      split at h
      · injection h with _ h; cases h
      · have hx := ix_line h1 (by omega)
        have := (skipS_suffix (((c :: (x' ++ r)).drop (Lib.indexByte (c :: (x' ++ r)) 10).toNat).length + 1) ((c :: (x' ++ r)).drop (Lib.indexByte (c :: (x' ++ r)) 10).toNat)).length_le
        rw [show skipS (((c :: (x' ++ r)).drop (Lib.indexByte (c :: (x' ++ r)) 10).toNat).length + 1) ((c :: (x' ++ r)).drop (Lib.indexByte (c :: (x' ++ r)) 10).toNat) = skipT ((c :: (x' ++ r)).drop (Lib.indexByte (c :: (x' ++ r)) 10).toNat) from rfl, h] at this
        simp at this
        omega
  have h2 : Lib.hasPrefix (c :: (x' ++ r)) [47, 42] = false := by
    cases h2 : Lib.hasPrefix (c :: (x' ++ r)) [47, 42]
    · rfl
    · rw [skipT_block hb h1 h2] at h
      split at h
      · injection h with h _; cases h
      · have := (skipS_suffix (((c :: (x' ++ r)).drop ((Lib.index ((c :: (x' ++ r)).drop 2) [42, 47]).toNat + 4)).length + 1) ((c :: (x' ++ r)).drop ((Lib.index ((c :: (x' ++ r)).drop 2) [42, 47]).toNat + 4))).length_le
        rw [show skipS (((c :: (x' ++ r)).drop ((Lib.index ((c :: (x' ++ r)).drop 2) [42, 47]).toNat + 4)).length + 1) ((c :: (x' ++ r)).drop ((Lib.index ((c :: (x' ++ r)).drop 2) [42, 47]).toNat + 4)) = skipT ((c :: (x' ++ r)).drop ((Lib.index ((c :: (x' ++ r)).drop 2) [42, 47]).toNat + 4)) from rfl, h] at this
        simp at this
        omega
  have hp : ∀ b, b = 47 ∨ b = 42 → Lib.hasPrefix (c :: (x' ++ r)) [47, b] = false → Lib.hasPrefix (c :: (x' ++ r2)) [47, b] = false := by
    intro b hbb hf
    cases x' with
    | cons d x' =>
      simp only [Lib.hasPrefix, List.cons_append, List.isPrefixOf, Bool.and_true] at hf ⊢
      exact hf
    | nil =>
      simp only [List.nil_append] at hf ⊢
      cases r2 with
      | nil => simp [Lib.hasPrefix, List.isPrefixOf]
      | cons d r2 =>
        simp only [Lib.hasPrefix, List.isPrefixOf, Bool.and_true]
        rcases hr with hr | hr
        · cases r with
          | nil => simp at hr
          | cons e r =>
            simp at hr
            subst hr
            simpa [Lib.hasPrefix, List.isPrefixOf] using hf
        · have hd := hr d rfl
          have hne : (b == d) = false := by
            rcases hbb with rfl | rfl <;> rcases hd with rfl | rfl | rfl | rfl <;> rfl
          rw [hne, Bool.and_false]
  exact skipT_here hb (hp 47 (.inl rfl) h1) (hp 42 (.inr rfl) h2)
end Go.Proofs.YtnhmgjochmollaaGreatDoor

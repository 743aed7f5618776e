/- The two laws over lex's scanning, in plain Lean: blanks change no token but its place; each token stands alone. -/
import Derived.Test.YtnhmgjochmollaaGreatDoorLexW
namespace Go.Proofs.YtnhmgjochmollaaGreatDoor
open Go.RowKit
set_option linter.unusedSimpArgs false
set_option linter.unusedVariables false

/-- The tokens ts stand from r's head on. -/
inductive Scans (n : Nat) : List UInt8 → List Tok → Prop
  | nil : Scans n [] []
  | cons (x l r : List UInt8) (t : Tok) (ts : List Tok) : x ≠ [] → readS n (x ++ l) = .ok t → t.size = x.length → skipT (x ++ l) = (true, x ++ l) → skipT l = (true, r) → Scans n r ts → Scans n (x ++ l) (t :: ts)

theorem skipT_len {l r : List UInt8} {b : Bool} (h : skipT l = (b, r)) : r.length ≤ l.length := by
  have := (skipS_suffix (l.length + 1) l).length_le
  rw [show skipS (l.length + 1) l = skipT l from rfl, h] at this
  exact this
theorem scans_of {n f : Nat} {r : List UInt8} {acc ts : List Tok} (hs : skipT r = (true, r)) (hf : r.length < f) (h : scanS n f r acc = .ok ts) : ∃ us, ts = acc ++ us ∧ Scans n r us := by
  induction f generalizing r acc with
  | zero => omega
  | succ f ih =>
    cases r with
    | nil =>
      simp only [scanS, Except.ok.injEq] at h
      exact ⟨[], by simp [h], .nil⟩
    | cons c l =>
      cases hq : readS n (c :: l) with
      | error q => rw [scanS_err hq] at h; cases h
      | ok t =>
        obtain ⟨z, hz, h1, h2⟩ := readS_size hq
        obtain ⟨⟨b, r'⟩, hk⟩ : ∃ K, skipS (l.length + 2) ((c :: l).drop z) = K := ⟨_, rfl⟩
        cases b
        · rw [scanS_gone hq hz r' hk] at h; cases h
        · rw [scanS_ok hq hz r' hk] at h
          rw [skipT_of (by simp; omega)] at hk
          have hl := skipT_len hk
          simp at hl hf
          obtain ⟨_, _, _, hs'⟩ := skipT_parts _ _ _ (Nat.le_refl _) hk
          obtain ⟨us, rfl, hc⟩ := ih hs' (by omega) h
          refine ⟨t :: us, by simp, ?_⟩
          have e : (c :: l).take z ++ (c :: l).drop z = c :: l := List.take_append_drop _ _
          have hx : ((c :: l).take z).length = z := by simp; omega
          have := Scans.cons (n := n) ((c :: l).take z) ((c :: l).drop z) r' t us (by intro e; rw [e] at hx; simp at hx; omega) (by rw [e]; exact hq) (by rw [hx]; exact hz) (by rw [e]; exact hs) hk hc
          rwa [e] at this
theorem scans_to {n f : Nat} {r : List UInt8} {acc us : List Tok} (h : Scans n r us) (hf : r.length < f) : scanS n f r acc = .ok (acc ++ us) := by
  induction h generalizing f acc with
  | nil => cases f <;> simp [scanS]
  | cons x l r t ts h0 hq hz hs hk _ ih =>
    obtain ⟨f, rfl⟩ : ∃ f', f = f' + 1 := ⟨f - 1, by omega⟩
    obtain ⟨c, x', rfl⟩ : ∃ c x', x = c :: x' := by
      cases x with
      | nil => exact absurd rfl h0
      | cons c x' => exact ⟨c, x', rfl⟩
    rw [List.cons_append] at hq hf ⊢
    have hd : (c :: (x' ++ l)).drop (c :: x').length = l := by rw [← List.cons_append]; exact List.drop_left' rfl
    have hkk : skipS ((x' ++ l).length + 2) ((c :: (x' ++ l)).drop (c :: x').length) = (true, r) := by
      rw [hd, skipT_of (by simp; omega)]
      exact hk
    rw [scanS_ok hq hz r hkk]
    have := skipT_len hk
    simp at hf
    rw [ih (by omega)]
    simp
theorem scanOf_parts {l : List UInt8} {ts : List Tok} (h : scanOf l = .ok ts) : l.length ≤ 4000 ∧ ∃ r, skipT l = (true, r) ∧ Scans l.length r ts := by
  have hl := (scanOf_len h).2
  refine ⟨hl, ?_⟩
  obtain ⟨⟨b, r⟩, hk⟩ : ∃ K, skipS (l.length + 1) l = K := ⟨_, rfl⟩
  cases b
  · rw [scanOf_false hl hk] at h; cases h
  · rw [scanOf_true hl hk] at h
    have hk' : skipT l = (true, r) := hk
    obtain ⟨_, _, _, hs⟩ := skipT_parts _ _ _ (Nat.le_refl _) hk'
    obtain ⟨us, hu, hc⟩ := scans_of hs (by have := skipT_len hk'; omega) h
    exact ⟨r, hk', by rw [show ts = us by simpa using hu]; exact hc⟩
theorem scanOf_make {l r : List UInt8} {ts : List Tok} (hl : l.length ≤ 4000) (hk : skipT l = (true, r)) (hs : Scans l.length r ts) : scanOf l = .ok ts := by
  rw [scanOf_true hl hk, scans_to hs (by have := skipT_len hk; omega)]
  simp

/-! ### Blanks -/
theorem closed_comment : Skips [47, 42, 32, 97, 32, 42, 47] := Skips.closed (c := 47) (l := [42, 32, 97, 32, 42, 47]) (by decide) rfl rfl (by decide)
theorem line_comment : Skips [47, 47, 32, 98, 10] := Skips.line (c := 47) (l := [47, 32, 98]) (by decide) rfl (by decide)
theorem allB_skips : ∀ l ∈ allB, Skips l := by
  intro l hl
  simp only [allB, List.mem_cons, List.not_mem_nil, or_false] at hl
  rcases hl with rfl | rfl | rfl | rfl | rfl | rfl
  · exact Skips.nil
  · exact Skips.blank (by decide)
  · exact Skips.blank (by decide)
  · exact (Skips.blank (c := 32) (by decide)).append closed_comment
  · exact (Skips.blank (c := 9) (by decide)).append line_comment
  · exact (Skips.blank (c := 9) (by decide)).append (Skips.blank (c := 13) (by decide))
theorem allB_head : ∀ l ∈ allB, ∀ c, l.head? = some c → isBlank c := by
  intro l hl c hc
  simp only [allB, List.mem_cons, List.not_mem_nil, or_false] at hl
  rcases hl with rfl | rfl | rfl | rfl | rfl | rfl <;> simp at hc <;> subst hc <;> unfold isBlank <;> simp
theorem extra_mem (xs : List Int) (k : Nat) : extra xs k ∈ allB := by
  unfold extra
  split
  · rw [List.getD_eq_getElem?_getD]
    cases h : allB[pickN (xs.getD k 0) 6]? with
    | none => simp [allB]
    | some y => exact List.mem_of_getElem? h
  · simp [allB]
theorem alike_front {g r V : List UInt8} (h : g ≠ []) : Alike (g ++ r) (g ++ V) := by
  cases g with
  | nil => exact absurd rfl h
  | cons c g => exact .inl rfl
theorem alike_extra {l E V : List UInt8} (hE : E ∈ allB) (h : E = [] → Alike l V) : Alike l (E ++ V) := by
  cases E with
  | nil => exact h rfl
  | cons c E => exact .inr (fun d hd => allB_head _ hE d (by simpa using hd))

theorem widen_law (src : List UInt8) (xs : List Int) (ts : List Tok) : ∀ (k e : Nat) (wide : List UInt8) (want : List Tok) (l r : List UInt8), src.drop e = l → e ≤ src.length → skipT l = (true, r) → Scans src.length r ts →
    ∃ V us V', widen src xs k e wide want ts = (wide ++ V, want ++ us) ∧ Alike l V ∧ skipT V = (true, V') ∧ ∀ m, m = wide.length + V.length → Scans m V' us := by
  induction ts with
  | nil =>
    intro k e wide want l r hl he hk hs
    cases hs
    obtain ⟨g, hg, hgs, _⟩ := skipT_parts _ _ _ (Nat.le_refl _) hk
    rw [List.append_nil] at hg
    subst hg
    have hlen : l.length = src.length - e := by rw [← hl]; simp
    refine ⟨l ++ (if e < src.length then [10] else []) ++ extra xs k, [], [], ?_, ?_, ?_, fun m _ => .nil⟩
    · simp only [widen, hl, List.append_assoc, List.append_nil]
    · by_cases h0 : l = []
      · subst h0
        have : ¬ e < src.length := by simp at hlen; omega
        rw [if_neg this]
        simp only [List.nil_append]
        have := alike_extra (l := []) (V := []) (extra_mem xs k) (fun _ => .inl rfl)
        rwa [List.append_nil] at this
      · rw [List.append_assoc]
        have := alike_front (g := l) (r := []) (V := (if e < src.length then [10] else []) ++ extra xs k) h0
        rwa [List.append_nil] at this
    · have hx := allB_skips _ (extra_mem xs k)
      have h1 : Skips (l ++ (if e < src.length then [10] else [])) := by
        by_cases h0 : e < src.length
        · rw [if_pos h0]
          rcases hgs with h | ⟨_, h⟩
          · exact h.append (Skips.blank (by decide))
          · exact h
        · rw [if_neg h0]
          have : l = [] := List.eq_nil_of_length_eq_zero (by omega)
          subst this
          exact Skips.nil
      have := (h1.append hx) []
      rw [List.append_nil] at this
      rw [this, skipT_nil]
  | cons t ts ih =>
    intro k e wide want l r hl he hk hs
    cases hs with
    | cons x l1 r1 _ _ h0 hq hz hst hk1 hs1 =>
      obtain ⟨g, hg, hgs, _⟩ := skipT_parts _ _ _ (Nat.le_refl _) hk
      have hgs : Skips g := by
        rcases hgs with h | ⟨h, _⟩
        · exact h
        · exact absurd h (by simp [h0])
      have hlen : l.length = src.length - e := by rw [← hl]; simp
      have hglen : l.length = g.length + (x.length + l1.length) := by rw [hg]; simp
      have hat : t.at_.toNat = e + g.length := by
        obtain ⟨c, x', rfl⟩ : ∃ c x', x = c :: x' := by
          cases x with
          | nil => exact absurd rfl h0
          | cons c x' => exact ⟨c, x', rfl⟩
        rw [List.cons_append] at hq
        rw [readS_at hq]
        simp at hglen ⊢
        omega
      have hszn : t.size.toNat = x.length := by rw [hz]; simp
      have ha : src.drop (e + g.length) = x ++ l1 := by
        rw [← List.drop_drop, hl, hg]
        exact List.drop_left' rfl
      have hb : src.drop (e + g.length + x.length) = l1 := by
        rw [← List.drop_drop, ha]
        exact List.drop_left' rfl
      have hx0 : 0 < x.length := by cases x with
        | nil => exact absurd rfl h0
        | cons c x' => simp
      obtain ⟨V, us, V', hw, hal, hsk, hsc⟩ := ih (k + 1) (e + g.length + x.length) (wide ++ g ++ extra xs k ++ x) (want ++ [{ t with at_ := ((wide ++ g ++ extra xs k).length : Nat) }]) l1 r1 hb (by omega) hk1 hs1
      refine ⟨g ++ (extra xs k ++ (x ++ V)), { t with at_ := ((wide ++ g ++ extra xs k).length : Nat) } :: us, x ++ V, ?_, ?_, ?_, ?_⟩
      · rw [widen, hat, hszn, ha, hl]
        rw [show (l.take (e + g.length - e)) = g by rw [show e + g.length - e = g.length by omega, hg]; exact List.take_left' rfl]
        rw [show (x ++ l1).take x.length = x from List.take_left' rfl, hw]
        simp
      · rw [hg]
        by_cases hge : g = []
        · subst hge
          simp only [List.nil_append]
          refine alike_extra (extra_mem xs k) (fun _ => ?_)
          exact alike_front h0
        · exact alike_front hge
      · rw [hgs, allB_skips _ (extra_mem xs k)]
        exact stop_swap h0 hst hal
      · intro m hm
        refine Scans.cons x V V' _ us h0 ?_ hz (stop_swap h0 hst hal) hsk (hsc m (by simp at hm ⊢; omega))
        rw [readS_swap (n2 := m) h0 hq hz hal]
        congr 2
        simp at hm ⊢
        omega
theorem blanks_law (src : List UInt8) (xs : List Int) (ts : List Tok) (h : scanOf src = .ok ts) (hl : (widen src xs 0 0 [] [] ts).1.length ≤ 4000) : scanOf (widen src xs 0 0 [] [] ts).1 = .ok (widen src xs 0 0 [] [] ts).2 := by
  obtain ⟨_, r, hk, hs⟩ := scanOf_parts h
  obtain ⟨V, us, V', hw, _, hsk, hsc⟩ := widen_law src xs ts 0 0 [] [] src r rfl (Nat.zero_le _) hk hs
  rw [hw] at hl ⊢
  simp only [List.nil_append] at hl ⊢
  exact scanOf_make hl hsk (hsc _ (by simp))
end Go.Proofs.YtnhmgjochmollaaGreatDoor

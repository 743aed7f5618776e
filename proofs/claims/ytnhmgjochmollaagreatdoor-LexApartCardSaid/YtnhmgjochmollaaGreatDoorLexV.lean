/- A token does not hang on what stands behind it, but for the first byte; and a stop of the skipping neither. In plain Lean. -/
import Derived.Test.YtnhmgjochmollaaGreatDoorLexU
namespace Go.Proofs.YtnhmgjochmollaaGreatDoor
open Go.RowKit
set_option linter.unusedSimpArgs false
set_option linter.unusedVariables false

def isBlank (c : UInt8) : Prop := c = 9 ∨ c = 10 ∨ c = 13 ∨ c = 32
/-- What stands behind begins as it did, or with a blank, or is nothing. -/
def Alike (r r2 : List UInt8) : Prop := r2.head? = r.head? ∨ ∀ c, r2.head? = some c → isBlank c

theorem blank_part {c : UInt8} (h : isBlank c) : partB (c.toNat : Int) = false := by
  rcases h with rfl | rfl | rfl | rfl <;> decide
theorem runLen_swap {x r r2 : List UInt8} (h : runLen (x ++ r) = x.length) (hr : Alike r r2) : runLen (x ++ r2) = x.length := by
  induction x with
  | nil =>
    simp only [List.nil_append, List.length_nil] at h ⊢
    cases r2 with
    | nil => rfl
    | cons c r2 =>
      rcases hr with hr | hr
      · cases r with
        | nil => simp at hr
        | cons d r =>
          simp at hr
          subst hr
          unfold runLen at h ⊢
          cases hp : partB (c.toNat : Int)
          · simp [hp]
          · simp [hp] at h
      · have := blank_part (hr c rfl)
        simp [runLen, this]
  | cons a x ih =>
    unfold runLen at h ih ⊢
    cases hp : partB (a.toNat : Int)
    · simp [hp] at h
    · simp [hp] at h ih ⊢
      exact ih h

/-- The list of signs is in such an order that one byte ahead tells. -/
def signsOk : Bool := (List.range signList.length).all fun i => (List.range i).all fun j =>
  !(signList.getD i []).isPrefixOf (signList.getD j []) || (List.range i).any fun k => signList.getD k [] == signList.getD i [] ++ [(signList.getD j []).getD (signList.getD i []).length 0]
theorem signs_ok : signsOk = true := by decide +kernel
instance (c : UInt8) : Decidable (isBlank c) := by unfold isBlank; infer_instance
theorem signs_plain : signList.all (fun x => x.all fun c => decide (¬ isBlank c)) = true := by decide +kernel
theorem signs_nodup : signList.Nodup := by decide +kernel

theorem sign_swap {x r r2 : List UInt8} (h0 : x ≠ []) (h : signLen (x ++ r) = x.length) (hr : Alike r r2) : signLen (x ++ r2) = x.length := by
  unfold signLen at h ⊢
  cases hf : signList.find? (fun y => y.isPrefixOf (x ++ r)) with
  | none =>
    rw [hf] at h
    simp at h
    exact absurd (List.eq_nil_of_length_eq_zero h.symm) h0
  | some y =>
    rw [hf] at h
    simp at h
    obtain ⟨hy, es, bs, hl, ha⟩ := List.find?_eq_some_iff_append.1 hf
    have hyx : y = x := by
      have h1 := List.isPrefixOf_iff_prefix.1 hy
      have h2 : x <+: x ++ r := List.prefix_append x r
      exact (List.prefix_of_prefix_length_le h1 h2 (by omega)).eq_of_length h
    subst hyx
    have key : signList.find? (fun z => z.isPrefixOf (y ++ r2)) = some y := by
      rw [List.find?_eq_some_iff_append]
      refine ⟨by rw [List.isPrefixOf_iff_prefix]; exact List.prefix_append _ _, es, bs, hl, fun z hz => ?_⟩
      have hz0 := ha z hz
      simp only [Bool.not_eq_eq_eq_not, Bool.not_true] at hz0 ⊢
      rw [Bool.eq_false_iff] at hz0 ⊢
      intro hp
      have hp := List.isPrefixOf_iff_prefix.1 hp
      have hn : ¬ z <+: y := fun hzy => hz0 (List.isPrefixOf_iff_prefix.2 (hzy.trans (List.prefix_append _ _)))
      have hyz : y <+: z := by
        rcases List.prefix_or_prefix_of_prefix hp (List.prefix_append y r2) with h | h
        · exact absurd h hn
        · exact h
      obtain ⟨t, rfl⟩ := hyz
      have ht : t <+: r2 := by rwa [List.prefix_append_right_inj] at hp
      cases t with
      | nil => exact hn (by simp)
      | cons c t =>
        obtain ⟨t', rfl⟩ := ht
        -- the place of y, and of the longer sign ahead of it
        obtain ⟨j, hj, hjz⟩ := List.getElem_of_mem hz
        have hi : signList.getD es.length [] = y := by rw [hl]; simp
        have hjl : signList.getD j [] = y ++ c :: t := by
          rw [hl, List.getD_eq_getElem?_getD, List.getElem?_append_left hj, List.getElem?_eq_getElem hj, hjz]
          rfl
        have hlen : es.length < signList.length := by rw [hl]; simp
        have hok := signs_ok
        unfold signsOk at hok
        rw [List.all_eq_true] at hok
        have h1 := hok es.length (List.mem_range.2 hlen)
        rw [List.all_eq_true] at h1
        have h2 := h1 j (List.mem_range.2 hj)
        rw [hi, hjl] at h2
        have hpre : y.isPrefixOf (y ++ c :: t) = true := List.isPrefixOf_iff_prefix.2 (List.prefix_append _ _)
        rw [hpre] at h2
        simp only [Bool.not_true, Bool.false_or, List.any_eq_true, List.mem_range, beq_iff_eq] at h2
        obtain ⟨k, hk, hke⟩ := h2
        have hc : (y ++ c :: t).getD y.length 0 = c := by simp
        rw [hc] at hke
        have hkm : y ++ [c] ∈ es := by
          rw [← hke, hl, List.getD_eq_getElem?_getD, List.getElem?_append_left hk, List.getElem?_eq_getElem hk]
          exact List.getElem_mem hk
        rcases hr with hr | hr
        · simp at hr
          cases r with
          | nil => simp at hr
          | cons d r =>
            simp at hr
            subst hr
            have := ha _ hkm
            simp only [Bool.not_eq_eq_eq_not, Bool.not_true] at this
            rw [Bool.eq_false_iff] at this
            exact this (List.isPrefixOf_iff_prefix.2 ⟨r, by simp⟩)
        · have hb := hr c (by simp)
          have hmem : y ++ [c] ∈ signList := by rw [hl]; exact List.mem_append_left _ hkm
          have := List.all_eq_true.1 (List.all_eq_true.1 signs_plain _ hmem) c (by simp)
          exact (of_decide_eq_true this) hb
    rw [key]
    rfl
end Go.Proofs.YtnhmgjochmollaaGreatDoor

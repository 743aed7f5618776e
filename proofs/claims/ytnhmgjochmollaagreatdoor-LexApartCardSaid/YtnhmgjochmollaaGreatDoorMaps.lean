/- Maps whose keys are whole numbers of one kind, known entry by entry: what a look-up and a store come to. Any program. -/
import Derived.Maps.OwnSet
import Derived.Below
namespace Go.Proofs.YtnhmgjochmollaaGreatDoor
open Go.RowKit
set_option linter.unusedSimpArgs false
set_option linter.unusedVariables false

/-- Block b is a map of the entries l, keys of kind k. -/
def IMap (w : World) (b : Nat) (k : IntKind) (l : List (Int × Value)) : Prop := ∃ es clock, w.heap[b]? = some (.map es clock) ∧ es.toList.map (fun e => (e.key, e.val)) = l.map (fun p => (Value.int k p.1, p.2))
def imGet : List (Int × Value) → Int → Option Value
  | [], _ => none
  | p :: l, a => if a = p.1 then some p.2 else imGet l a
def imFind : List (Int × Value) → Int → Nat → Option (Nat × Value)
  | [], _, _ => none
  | p :: l, a, i => if a = p.1 then some (i, p.2) else imFind l a (i + 1)
def imPut : List (Int × Value) → Int → Value → List (Int × Value)
  | [], a, v => [(a, v)]
  | p :: l, a, v => if a = p.1 then (a, v) :: l else p :: imPut l a v
theorem imFind_get (l : List (Int × Value)) (a : Int) : ∀ i, (imFind l a i).map (·.2) = imGet l a := by
  induction l with
  | nil => intro i; rfl
  | cons p l ih => intro i; unfold imFind imGet; split; rfl; exact ih _
theorem findNow_int {k : IntKind} (a : Int) : ∀ (es : List MapEntry) (l : List (Int × Value)) (i : Nat), es.map (fun e => (e.key, e.val)) = l.map (fun p => (Value.int k p.1, p.2)) → Instr.findNow (.int k) (.int k a) es i = some (imFind l a i)
  | [], l, i, h => by
    cases l with
    | nil => rfl
    | cons p l => simp at h
  | e :: es, l, i, h => by
    cases l with
    | nil => simp at h
    | cons p l =>
      simp only [List.map_cons, List.cons.injEq, Prod.mk.injEq] at h
      obtain ⟨⟨h1, h2⟩, h3⟩ := h
      have ih := findNow_int (k := k) a es l (i + 1) h3
      unfold Instr.findNow imFind
      rw [h1]
      by_cases ha : a = p.1
      · simp [Instr.sameNow, ha, h2]
      · simp [Instr.sameNow, beq_eq_false_iff_ne.2 ha, ha, ih]
theorem imap_look {P : Program} {w : World} {b : Nat} {k : IntKind} {l : List (Int × Value)} (h : IMap w b k l) (t K E : TypeId) (ht : P.underlying t = some (.map K E)) (hK : P.underlying K = some (.int k)) (z : Value) (hz : (zeroValue E).run P w = .ok z w) (a : Int) :
    (Instr.lookup t (.map (some b)) (.int k a) true).run P w = .ok (.tuple #[(imGet l a).getD z, .bool (imGet l a).isSome]) w ∧ (Instr.lookup t (.map (some b)) (.int k a) false).run P w = .ok ((imGet l a).getD z) w := by
  obtain ⟨es, clock, hb, he⟩ := h
  have hf := findNow_int a es.toList l 0 he
  have hg := imFind_get l a 0
  have hc := fun e => MapKept.run_checkKey (P := P) (w := w) (k := .int k a) hK (by simp [MapKept.IsKey]) e 9999
  have hk := MapKept.run_findKey (P := P) (w := w) hK hf
  unfold Instr.lookup
  constructor
  · simp only [Sem.run_bind, run_underlying ht, Result.andThen, MapKept.run_getObj_map hb, Sem.run_pure, hc, hk]
    cases hq : imFind l a 0 with
    | none => rw [hq] at hg; simp [hz, ← hg, Result.andThen]
    | some q => rw [hq] at hg; simp [← hg, Result.andThen]
  · simp only [Sem.run_bind, run_underlying ht, Result.andThen, MapKept.run_getObj_map hb, Sem.run_pure, hc, hk]
    cases hq : imFind l a 0 with
    | none => rw [hq] at hg; simp [hz, ← hg, Result.andThen]
    | some q => rw [hq] at hg; simp [← hg, Result.andThen]
theorem imFind_none (l : List (Int × Value)) (a : Int) (v : Value) : ∀ i, imFind l a i = none → imPut l a v = l ++ [(a, v)] := by
  induction l with
  | nil => intro i _; rfl
  | cons p l ih =>
    intro i h
    unfold imFind at h
    split at h
    · cases h
    · rename_i hne
      simp [imPut, hne, ih _ h]
theorem imFind_some (l : List (Int × Value)) (a : Int) (v : Value) : ∀ i j u, imFind l a i = some (j, u) → i ≤ j ∧ imPut l a v = l.set (j - i) (a, v) ∧ l[j - i]? = some (a, u) := by
  induction l with
  | nil => intro i j u h; cases h
  | cons p l ih =>
    intro i j u h
    unfold imFind at h
    split at h
    · rename_i e
      simp only [Option.some.injEq, Prod.mk.injEq] at h
      obtain ⟨rfl, rfl⟩ := h
      simp [imPut, e]
    · rename_i hne
      obtain ⟨h1, h2, h3⟩ := ih _ _ _ h
      have e : j - i = (j - (i + 1)) + 1 := by omega
      refine ⟨by omega, ?_, ?_⟩
      · rw [e]; simp [imPut, hne, h2]
      · rw [e]; simpa using h3
theorem imap_put {P : Program} {w : World} {b : Nat} {k : IntKind} {l : List (Int × Value)} (h : IMap w b k l) (t K E : TypeId) (ht : P.underlying t = some (.map K E)) (hK : P.underlying K = some (.int k)) (a : Int) (v : Value) :
    ∃ w', (Instr.mapUpdate t (.map (some b)) (.int k a) v).run P w = .ok () w' ∧ IMap w' b k (imPut l a v) ∧ w.grownBy w' (some b) := by
  obtain ⟨es, clock, hb, he⟩ := h
  have hf := findNow_int a es.toList l 0 he
  have hc := MapKept.run_checkKey (P := P) (w := w) (k := .int k a) hK (by simp [MapKept.IsKey]) false 9999
  have hk := MapKept.run_findKey (P := P) (w := w) hK hf
  have hset : ∀ o, w.grownBy { w with heap := w.heap.setIfInBounds b o } (some b) := fun o => ⟨rfl, rfl, rfl, by simp, fun i _ hi => by
    simp [Array.getElem?_setIfInBounds_ne (show b ≠ i from fun e => hi (by rw [e]))]⟩
  have hlt := (Array.getElem?_eq_some_iff.1 hb).1
  unfold Instr.mapUpdate
  simp only [Sem.run_bind, run_underlying ht, Result.andThen, MapKept.run_getObj_map hb, Sem.run_pure, hc, hk]
  cases hq : imFind l a 0 with
  | none =>
    refine ⟨{ w with heap := w.heap.setIfInBounds b (.map (es.push { key := .int k a, val := v, born := clock }) (clock + 1)) }, by simp only [MapKept.run_setObj_map _ hb], ⟨es.push { key := .int k a, val := v, born := clock }, clock + 1, by simp [hlt], ?_⟩, hset _⟩
    rw [imFind_none l a v 0 hq]
    simp [he]
  | some q =>
    obtain ⟨j, u⟩ := q
    obtain ⟨_, h2, h3⟩ := imFind_some l a v 0 j u hq
    have hj : (es.toList.map (fun e => (e.key, e.val)))[j]? = some (.int k a, u) := by
      rw [he, List.getElem?_map, show l[j]? = some (a, u) from h3]; rfl
    have hkey : ((es[j]?).map (·.key)).getD (.int k a) = .int k a := by
      rw [List.getElem?_map] at hj
      cases hx : es[j]? with
      | none => rfl
      | some x =>
        rw [show es.toList[j]? = some x by simpa using hx] at hj
        simp only [Option.map_some, Option.some.injEq, Prod.mk.injEq] at hj
        simp [hj.1]
    have hs : (Instr.keyThatStays (.int k a) (.int k a)).run P w = .ok (.int k a) w := by
      simp [Instr.keyThatStays, Instr.sameBits]
    refine ⟨{ w with heap := w.heap.setIfInBounds b (.map (es.modify j fun e => { e with key := .int k a, val := v }) clock) }, by simp only [hkey, Sem.run_bind, hs, Result.andThen, MapKept.run_setObj_map _ hb], ⟨es.modify j fun e => { e with key := .int k a, val := v }, clock, by simp [hlt], ?_⟩, hset _⟩
    rw [h2, Nat.sub_zero]
    have : ∀ (L : List MapEntry) (l : List (Int × Value)) (j : Nat), L.map (fun e => (e.key, e.val)) = l.map (fun p => (Value.int k p.1, p.2)) → (L.modify j fun e => { e with key := .int k a, val := v }).map (fun e => (e.key, e.val)) = (l.set j (a, v)).map (fun p => (Value.int k p.1, p.2)) := by
      intro L
      induction L with
      | nil => intro l j hL; cases l <;> simp_all
      | cons x L ih =>
        intro l j hL
        cases l with
        | nil => simp at hL
        | cons p l =>
          simp only [List.map_cons, List.cons.injEq] at hL
          cases j with
          | zero => simp [hL.2]
          | succ j => simp [hL.1, ih l j hL.2]
    simpa using this es.toList l j he
theorem imap_made (w : World) (k : IntKind) : IMap (w.alloc (.map #[] 0)) w.heap.size k [] := ⟨#[], 0, heap_alloc_new w _, rfl⟩
theorem IMap.kept {w w' : World} {b : Nat} {k : IntKind} {l : List (Int × Value)} {row : Option Nat} (h : IMap w b k l) (hg : w.grownBy w' row) (hne : some b ≠ row) : IMap w' b k l := by
  obtain ⟨es, clock, hb, he⟩ := h
  exact ⟨es, clock, (hg.block b (Array.getElem?_eq_some_iff.1 hb).1 hne).trans hb, he⟩
theorem IMap.lt {w : World} {b : Nat} {k : IntKind} {l : List (Int × Value)} (h : IMap w b k l) : b < w.heap.size := by
  obtain ⟨es, clock, hb, he⟩ := h
  exact (Array.getElem?_eq_some_iff.1 hb).1
end Go.Proofs.YtnhmgjochmollaaGreatDoor

/- Contract of lex.Scan. Conditions: what the library's variables hold (Amb). -/
import Derived.Test.YtnhmgjochmollaaGreatDoorLexN
namespace Go.Proofs.YtnhmgjochmollaaGreatDoor
open Go.RowKit Go.Proofs.YtnhmgjochmollaaGreatDoorW.PrintWords
set_option linter.unusedSimpArgs false
set_option linter.unusedVariables false

/-- Bytes, and a token, as kinds of a row's elements. -/
def byteK : Kd UInt8 := Kd.scalar encU (fun _ => rfl)
def tokK : Kd Tok := Kd.iso (Kd.pair (Kd.int .i64) (Kd.pair (Kd.int .i64) (Kd.pair (Kd.int .i64) (Kd.pair Kd.string (Kd.pair (Kd.int .i64) (Kd.slice 5 byteK)))))) (fun t => (t.kind, t.at_, t.size, ⟨t.text.toArray⟩, t.n, t.bytes))
theorem tok_M {w : World} {base : Nat} {ok : Nat → Prop} {t : Tok} {cs : List Value} :
    tokK.M w base ok t cs ↔ ∃ v, cs = [.int .i64 t.kind, .int .i64 t.at_, .int .i64 t.size, .string ⟨t.text.toArray⟩, .int .i64 t.n, v] ∧ byteK.R 5 w base ok v t.bytes := by
  constructor
  · rintro ⟨c0, _, rfl, h0, c1, _, rfl, h1, c2, _, rfl, h2, c3, _, rfl, h3, c4, c5, rfl, h4, v, rfl, h5⟩
    refine ⟨v, ?_, h5⟩
    rw [show c0 = [Value.int .i64 t.kind] from h0, show c1 = [Value.int .i64 t.at_] from h1, show c2 = [Value.int .i64 t.size] from h2, show c3 = [Value.string ⟨t.text.toArray⟩] from h3, show c4 = [Value.int .i64 t.n] from h4]
    rfl
  · rintro ⟨v, rfl, h⟩
    exact ⟨[_], _, rfl, rfl, [_], _, rfl, rfl, [_], _, rfl, rfl, [_], _, rfl, rfl, [_], [_], rfl, rfl, v, rfl, h⟩
theorem tok_sz : tokK.sz = 6 := rfl
theorem tok_E : tokK.E = [5] := rfl
/-- The tokens that a slice of the call's own holds. -/
def Toks (w : World) (base : Nat) (v : Value) (ts : List Tok) : Prop := tokK.R 33 w base (fun _ => True) v ts
theorem Toks.below {w w1 : World} {base : Nat} {v : Value} {ts : List Tok} (h : Toks w base v ts) (hb : Below w.heap.size w w1) : Toks w1 base v ts := Kd.R_below h hb
theorem Toks.lower {w : World} {base base' : Nat} {v : Value} {ts : List Tok} (h : Toks w base v ts) (hb : base' ≤ base) : Toks w base' v ts := Kd.R_lower h hb
/-- A token's bytes, as an appended token's cells have them. -/
theorem tok_made {w : World} {base : Nat} {t : Tok} {v : Value} (h : w.ownsRow base 5 1 v t.bytes.length (t.bytes.map encU)) :
    tokK.M w base (fun k => ∃ cells, w.heap[k]? = some (.cells cells 5 (0, 0))) t [.int .i64 t.kind, .int .i64 t.at_, .int .i64 t.size, .string ⟨t.text.toArray⟩, .int .i64 t.n, v] :=
  tok_M.2 ⟨v, rfl, Kd.R_of_own h fun k hk => own_typed h k hk⟩
theorem tok_list : Tryz.prog.underlying 24 = some (.slice 33) := by kernel_rfl

/-- What Scan hands back: the tokens and no fault, or no tokens and the fault. -/
def ScanPost (w : World) (r : Except (Int × Int) (List Tok)) (e' : Ending) (w' : World) : Prop :=
  Below w.heap.size w w' ∧ match r with
  | .ok ts => ∃ v, e' = .returned (.tuple #[v, .agg #[.int .i64 0, .int .i64 0]]) ∧ Toks w' w.heap.size v ts
  | .error p => e' = .returned (.tuple #[.slice none 0 0, .agg #[.int .i64 p.1, .int .i64 p.2]])

/-- What holds at the head of the loop. -/
structure SInv (s : ByteArray) (b : Nat) (w : World) (e p : Int) (ts : List Tok) (v : Value) (wr : World) : Prop where
  below : Below b w wr
  k0 : wr.heap[b]? = some (.cells #[.int .i64 0, .int .i64 0] 27 (0, 0))
  scan : ScanAt wr (b + 1) s e p
  toks : e = 0 → Toks wr (b + 2) v ts
  size : b + 2 ≤ wr.heap.size
theorem cells2 {w : World} {b : Nat} {c0 c1 : Value} {t : TypeId} (h : w.heap[b]? = some (.cells #[c0, c1] t (0, 0))) :
    w.cell? ⟨b, 0, none⟩ = some c0 ∧ w.cell? ⟨b, 1, none⟩ = some c1 ∧ ∀ i, w.frozen? ⟨b, i, none⟩ = false :=
  ⟨(cell_of_row w b 0 _ _ _ h).trans rfl, (cell_of_row w b 1 _ _ _ h).trans rfl, fun i => by simp [World.frozen?, h]⟩

theorem SInv.step {s : ByteArray} {b : Nat} {w wr W : World} {e p : Int} {ts : List Tok} {v : Value} (h : SInv s b w e p ts v wr) (hb : Below wr.heap.size wr W) : SInv s b w e p ts v W :=
  ⟨h.below.trans (hb.mono (by have := h.size; omega)), (hb.block _ (by have := h.size; omega)).trans h.k0, h.scan.below hb, fun e => (h.toks e).below hb, by have := h.size; have := hb.size; omega⟩
theorem SInv.pushed {s : ByteArray} {b : Nat} {w W w1 : World} {e p : Int} {ts ts1 : List Tok} {v v1 : Value} {row : Option Nat} (h : SInv s b w e p ts v W) (hg : W.grownBy w1 row) (hr : ∀ k, row = some k → b + 2 ≤ k) (ht : e = 0 → Toks w1 (b + 2) v1 ts1) : SInv s b w e p ts1 v1 w1 := by
  have hs := h.size
  have e0 : w1.heap[b]? = W.heap[b]? := hg.block b (by omega) (fun e => by have := hr b e.symm; omega)
  have e1 : w1.heap[b + 1]? = W.heap[b + 1]? := hg.block (b + 1) (by omega) (fun e => by have := hr (b + 1) e.symm; omega)
  exact ⟨h.below.grown hg (by omega) (fun k hk => by have := hr k hk; omega), e0.trans h.k0, e1.trans h.scan, ht, by have := hg.size; omega⟩
theorem SInv.failed {s : ByteArray} {b : Nat} {w W w1 : World} {p er pe : Int} {ts : List Tok} {v : Value} (h : SInv s b w 0 p ts v W) (hS : ScanAt w1 (b + 1) s er pe) (hg : W.grownBy w1 (some (b + 1))) (he : er ≠ 0) : SInv s b w er pe ts v w1 ∧ ∃ inner, w1.ownsRow (b + 2) 33 6 v ts.length inner := by
  have hs := h.size
  refine ⟨⟨h.below.grown hg (by omega) (fun k hk => by injection hk; omega), (hg.block b (by omega) (by simp)).trans h.k0, hS, fun e => absurd e he, by have := hg.size; omega⟩, ?_⟩
  obtain ⟨_, inner, ho, _⟩ := h.toks rfl
  exact ⟨inner, own_move ho (fun k hk => hg.block k (own_lt ho k hk) (fun e => by have := own_base ho k hk; injection e; omega))⟩
theorem scan_result {fn : Func} {q p : Tmp} (hr : fn.results = #[.tmp q, .cell p 27]) {tmps : Array Value} {W : World} {b : Nat} {c0 c1 v : Value} (hq : tmps.getD q undef = v) (hp : tmps.getD p undef = .pointer (some ⟨b, 0, none⟩))
    (h : W.heap[b]? = some (.cells #[c0, c1] 27 (0, 0))) (h0 : c0.oneCell' = true) (h1 : c1.oneCell' = true) : (results fn tmps).run Tryz.prog W = .ok (.tuple #[v, .agg #[c0, c1]]) W := by
  obtain ⟨e0, e1, _⟩ := cells2 h
  rw [Array.getD_eq_getD_getElem?] at hp hq
  simp [results, hr, hp, hq, go_sem, e0, e1]

theorem skipS_suffix (f : Nat) (l : List UInt8) : (skipS f l).2 <:+ l := by
  induction f generalizing l with
  | zero => exact List.suffix_refl _
  | succ f ih =>
    cases l with
    | nil => exact List.suffix_refl _
    | cons c l =>
      rw [skipS]
      split
      · exact (ih l).trans (List.suffix_cons _ _)
      · split
        · split
          · exact (ih []).trans (List.nil_suffix)
          · exact (ih _).trans (List.drop_suffix _ _)
        · split
          · split
            · exact List.suffix_refl _
            · exact (ih _).trans (List.drop_suffix _ _)
          · exact List.suffix_refl _
theorem quotedS_suffix (q : UInt8) (f : Nat) (l : List UInt8) {bs r : List UInt8} (h : quotedS q f l = .done bs r) : r <:+ l ∧ 1 ≤ r.length := by
  induction f generalizing l bs with
  | zero => simp [quotedS] at h
  | succ f ih =>
    cases l with
    | nil => simp [quotedS] at h
    | cons c l =>
      rw [quotedS] at h
      split at h
      · injection h with _ h
        subst h
        exact ⟨List.suffix_refl _, by simp⟩
      · split at h
        · cases h
        · cases hq : quotedS q f ((c :: l).drop (piece c l).2) with
          | done bs' r' =>
            rw [hq] at h
            injection h with _ h
            subst h
            obtain ⟨h1, h2⟩ := ih _ hq
            exact ⟨h1.trans (List.drop_suffix _ _), h2⟩
          | bad r' => rw [hq] at h; cases h
          | gone => rw [hq] at h; cases h
theorem runLen_pos (c : UInt8) (l : List UInt8) (h : partB (c.toNat : Int) = true) : 1 ≤ runLen (c :: l) := by
  simp [runLen, h]
theorem numberS_size {a : Int} {x : List UInt8} {t : Tok} (h : numberS a x = .ok t) : t.size = x.length := by
  unfold numberS at h
  split at h
  · cases h
  · split at h
    · cases h
    · split at h
      · injection h with h; rw [← h]
      · cases h
theorem numberS_err {a : Int} {x : List UInt8} {p : Int × Int} (h : numberS a x = .error p) : p.1 ≠ 0 := by
  unfold numberS at h
  split at h
  · injection h with h; rw [← h]; simp
  · split at h
    · injection h with h; rw [← h]; simp
    · split at h
      · cases h
      · injection h with h; rw [← h]; simp
theorem quotedT_size {a : Int} {q : UInt8} {z : Nat} {bs : List UInt8} {t : Tok} (h : quotedT a q z bs = .ok t) : t.size = z + 1 := by
  unfold quotedT at h
  split at h
  · injection h with h; rw [← h]
  · split at h
    · injection h with h; rw [← h]
    · cases h
theorem quotedT_err {a : Int} {q : UInt8} {z : Nat} {bs : List UInt8} {p : Int × Int} (h : quotedT a q z bs = .error p) : p.1 ≠ 0 := by
  unfold quotedT at h
  split at h
  · cases h
  · split at h
    · cases h
    · injection h with h; rw [← h]; simp
theorem let_part (c : Int) (h : letB c = true) : partB c = true := by simp [partB, h]
theorem readS_size {n : Nat} {c : UInt8} {l : List UInt8} {t : Tok} (h : readS n (c :: l) = .ok t) : ∃ z : Nat, t.size = z ∧ 1 ≤ z ∧ z ≤ l.length + 1 := by
  cases hL : letB (c.toNat : Int)
  · cases hD : digB (c.toNat : Int)
    · by_cases hq : c = 39 ∨ c = 34
      · rw [readS_quoted n c l hq] at h
        cases hs : quotedS c (l.length + 1) l with
        | gone => simp [quotedR, hs] at h
        | bad r => simp [quotedR, hs] at h
        | done bs r =>
          rw [quotedR_done hs] at h
          obtain ⟨h1, h2⟩ := quotedS_suffix _ _ _ hs
          have := h1.length_le
          exact ⟨l.length + 1 - r.length + 1, by have := quotedT_size h; omega, by omega, by omega⟩
      · rw [readS_sign n c l hL hD hq] at h
        split at h
        · cases h
        · injection h with h
          rw [← h]
          exact ⟨_, rfl, by omega, signLen_le (c :: l)⟩
    · rw [readS_number n c l hD] at h
      have hz := numberS_size h
      rw [List.length_take, Nat.min_eq_left (runLen_le _)] at hz
      exact ⟨_, hz, runLen_pos c l (dig_part _ hD), runLen_le (c :: l)⟩
  · rw [readS_word n c l hL] at h
    injection h with h
    rw [← h]
    exact ⟨_, rfl, runLen_pos c l (let_part _ hL), runLen_le (c :: l)⟩
theorem readS_err {n : Nat} {c : UInt8} {l : List UInt8} {p : Int × Int} (h : readS n (c :: l) = .error p) : p.1 ≠ 0 := by
  cases hL : letB (c.toNat : Int)
  · cases hD : digB (c.toNat : Int)
    · by_cases hq : c = 39 ∨ c = 34
      · rw [readS_quoted n c l hq] at h
        cases hs : quotedS c (l.length + 1) l with
        | gone =>
          simp only [quotedR, hs] at h
          injection h with h; rw [← h]; simp
        | bad r =>
          simp only [quotedR, hs] at h
          injection h with h; rw [← h]; simp
        | done bs r =>
          rw [quotedR_done hs] at h
          exact quotedT_err h
      · rw [readS_sign n c l hL hD hq] at h
        split at h
        · injection h with h; rw [← h]; simp
        · cases h
    · rw [readS_number n c l hD] at h
      exact numberS_err h
  · rw [readS_word n c l hL] at h
    cases h
end Go.Proofs.YtnhmgjochmollaaGreatDoor

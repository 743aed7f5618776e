/- Contract of lex's reader of characters and texts. Conditions: the scan's block with nothing wrong yet, a place within a source of at most 4000 bytes; what the library's variables hold (Amb). -/
import Derived.Test.YtnhmgjochmollaaGreatDoorLexL
import Derived.Test.YtnhmgjochmollaaGreatDoorWWords
import Derived.RegionTactic
import Derived.Deep.RegionLaw
import Derived.Deep.Cut
import Derived.Deep.CutRange
import Derived.ChangeAlike
namespace Go.Proofs.YtnhmgjochmollaaGreatDoor
open Go.RowKit Go.Proofs.YtnhmgjochmollaaGreatDoorW.PrintWords
set_option linter.unusedSimpArgs false
set_option linter.unusedVariables false

/-- A character or a text that begins with the byte q, at the place a of a source of n bytes; l stands behind q. -/
def quotedR (n : Nat) (a : Int) (q : UInt8) (l : List UInt8) : Except (Int × Int) Tok :=
  match quotedS q (l.length + 1) l with
  | .gone => .error (4, a)
  | .bad r' => .error (10, n - r'.length)
  | .done bs r' => if q = 34 then .ok ⟨5, a, (l.length + 1 - r'.length : Nat) + 1, [], 0, bs⟩ else
    match bs with
    | [b] => .ok ⟨4, a, (l.length + 1 - r'.length : Nat) + 1, [], b.toNat, []⟩
    | _ => .error (10, a)
def Quoted.onto (bs : List UInt8) : Quoted → Quoted
  | .done bs' r => .done (bs ++ bs') r
  | x => x
theorem Quoted.onto_onto (bs : List UInt8) (b : UInt8) (x : Quoted) : Quoted.onto bs (Quoted.onto [b] x) = Quoted.onto (bs ++ [b]) x := by
  cases x <;> simp [Quoted.onto]
theorem quoted_more (q : UInt8) (f : Nat) (c : UInt8) (l : List UInt8) (h : c ≠ q) (h2 : (piece c l).2 ≠ 0) :
    quotedS q (f + 1) (c :: l) = Quoted.onto [UInt8.ofNat (piece c l).1.toNat] (quotedS q f ((c :: l).drop (piece c l).2)) := by
  rw [quotedS, if_neg h, if_neg h2]
  cases quotedS q f ((c :: l).drop (piece c l).2) <;> rfl
theorem quoted_wrong (q : UInt8) (f : Nat) (c : UInt8) (l : List UInt8) (h : c ≠ q) (h2 : (piece c l).2 = 0) : quotedS q (f + 1) (c :: l) = .bad (c :: l) := by
  rw [quotedS, if_neg h, if_pos h2]
theorem quoted_end (q : UInt8) (f : Nat) (l : List UInt8) : quotedS q (f + 1) (q :: l) = .done [] (q :: l) := by
  rw [quotedS, if_pos rfl]
def encU (c : UInt8) : Value := .int .u8 c.toNat
theorem escape_range (l : List UInt8) : 0 ≤ (escapeOf l).1 ∧ (escapeOf l).1 < 256 := by
  unfold escapeOf
  split
  · split
    · split
      · rename_i heq
        have : ∀ (c : Int) k v, imGet escMap c = some (.int k v) → 0 ≤ v ∧ v < 256 := by
          intro c k v h
          have hall : ∀ p ∈ escMap, ∀ k v, p.2 = .int k v → 0 ≤ v ∧ v < 256 := by
            intro p hp k v hv
            simp only [escMap, escList, List.map_cons, List.map_nil, List.mem_cons, List.not_mem_nil, or_false] at hp
            rcases hp with rfl | rfl | rfl | rfl | rfl | rfl | rfl <;> (injection hv with _ hv; subst hv; decide)
          have : ∀ m : List (Int × Value), (∀ p ∈ m, ∀ k v, p.2 = .int k v → 0 ≤ v ∧ v < 256) → imGet m c = some (.int k v) → 0 ≤ v ∧ v < 256 := by
            intro m
            induction m with
            | nil => intro _ h; simp [imGet] at h
            | cons p m ih =>
              intro ha h
              simp only [imGet] at h
              split at h
              · injection h with h
                exact ha p (by simp) _ _ h
              · exact ih (fun q hq => ha q (by simp [hq])) h
          exact this escMap hall h
        exact this _ _ _ heq
      · simp
    · split
      · split
        · split
          · rename_i v heq
            simp only
            simp only [pu] at heq
            split at heq
            · cases heq
            split at heq
            · cases heq
            split at heq
            · cases heq
            split at heq
            · cases heq
            simp only [Lib.NumEnd.ok.injEq] at heq
            omega
          · simp
        · simp
      · simp
  · simp
theorem escape_fits (l : List UInt8) : (escapeOf l).2 ≤ l.length := by
  unfold escapeOf
  split
  · split
    · split
      · simp
      · simp
    · split
      · split
        · split
          · simp
          · simp
        · simp
      · simp
  · simp
theorem piece_range (c : UInt8) (l : List UInt8) : 0 ≤ (piece c l).1 ∧ (piece c l).1 < 256 := by
  unfold piece
  have := c.toNat_lt
  split
  · exact escape_range _
  · split <;> (simp only; omega)
theorem piece_fits (c : UInt8) (l : List UInt8) : (piece c l).2 ≤ l.length + 1 := by
  unfold piece
  split
  · exact escape_fits (c :: l)
  · split <;> simp

/-- What holds at the head of the loop: the token so far in block b + 1, its bytes in a row of their own. -/
structure QInv (g b a : Nat) (w : World) (bs : List UInt8) (v : Value) (wr : World) : Prop where
  below : Below b w wr
  k0 : wr.heap[b]? = some (.cells #[.int .i64 0, .int .i64 0, .int .i64 0, .string ⟨#[]⟩, .int .i64 0, .slice none 0 0] 33 (0, 0))
  k1 : wr.heap[b + 1]? = some (.cells #[.int .i64 5, .int .i64 a, .int .i64 0, .string ⟨#[]⟩, .int .i64 0, v] 33 (0, 0))
  own : wr.ownsRow (b + 2) 5 1 v bs.length (bs.map encU)
  size : b + 2 ≤ wr.heap.size
theorem QInv.step {g b a : Nat} {w wr w1 : World} {bs : List UInt8} {v : Value} (h : QInv g b a w bs v wr) (hb : Below wr.heap.size wr w1) : QInv g b a w bs v w1 :=
  ⟨h.below.trans (hb.mono (by have := h.size; omega)), (hb.block _ (by have := h.size; omega)).trans h.k0, (hb.block _ (by have := h.size; omega)).trans h.k1, pw_own_below h.own hb, by have := h.size; have := hb.size; omega⟩
/-- What a quoted text comes to, by its bytes and its size. -/
def quotedT (a : Int) (q : UInt8) (z : Nat) (bs : List UInt8) : Except (Int × Int) Tok :=
  if q = 34 then .ok ⟨5, a, z + 1, [], 0, bs⟩ else
    match bs with
    | [b] => .ok ⟨4, a, z + 1, [], b.toNat, []⟩
    | _ => .error (10, a)
theorem quotedR_done {n : Nat} {a : Int} {q : UInt8} {l bs r' : List UInt8} (h : quotedS q (l.length + 1) l = .done bs r') : quotedR n a q l = quotedT a q (l.length + 1 - r'.length) bs := by
  simp only [quotedR, h]
  rfl
theorem quotedT_text {a : Int} {q : UInt8} {z : Nat} {bs : List UInt8} (h : q = 34) : quotedT a q z bs = .ok ⟨5, a, z + 1, [], 0, bs⟩ := if_pos h
theorem quotedT_char {a : Int} {q : UInt8} {z : Nat} {b : UInt8} (h : q ≠ 34) : quotedT a q z [b] = .ok ⟨4, a, z + 1, [], b.toNat, []⟩ := if_neg h
theorem quotedT_wrong {a : Int} {q : UInt8} {z : Nat} {bs : List UInt8} (h : q ≠ 34) (hn : bs.length ≠ 1) : quotedT a q z bs = .error (10, a) := by
  unfold quotedT
  rw [if_neg h]
  match bs, hn with
  | [], _ => rfl
  | [b], hn => exact absurd rfl hn
  | _ :: _ :: _, _ => rfl

theorem QInv.put {g b a : Nat} {w W w1 : World} {bs : List UInt8} {v v1 x : Value} {c : UInt8} (h : QInv g b a w bs v W) (hx : x = encU c) (ho : w1.ownsRow (b + 2) 5 1 v1 (bs.length + 1) (bs.map encU ++ [x])) (hg : W.grownBy w1 v.ownBlock) : QInv g b a w (bs ++ [c]) v1 (w1.setCell ⟨b + 1, 5, none⟩ v1) := by
  have hrow : ∀ k, v.ownBlock = some k → b + 2 ≤ k := own_base h.own
  have hrow1 : ∀ k, v1.ownBlock = some k → b + 2 ≤ k := own_base ho
  have hs := h.size
  have e0 : w1.heap[b]? = W.heap[b]? := hg.block b (by omega) (fun e => by have := hrow b e.symm; omega)
  have e1 : w1.heap[b + 1]? = W.heap[b + 1]? := hg.block (b + 1) (by omega) (fun e => by have := hrow (b + 1) e.symm; omega)
  refine ⟨(h.below.grown hg (by omega) (fun k hk => by have := hrow k hk; omega)).setCell (by simp) _, ?_, heap_set1 (e1.trans h.k1) 5 v1, ?_, ?_⟩
  · exact (Below.heap_setCell _ _ _ _ (by simp)).trans (e0.trans h.k0)
  · rw [List.length_append, List.map_append, List.map_cons, List.map_nil, List.length_singleton, ← hx]
    exact own_setCell ho (fun e => by have := hrow1 (b + 1) e.symm; omega) _
  · have := hg.size
    simpa using (show b + 2 ≤ w1.heap.size by omega)
theorem QInv.mid {g b a : Nat} {w W w1 : World} {bs : List UInt8} {v : Value} (h : QInv g b a w bs v W) (hg : W.grownBy w1 v.ownBlock) : w1.heap[b + 1]? = some (.cells #[.int .i64 5, .int .i64 a, .int .i64 0, .string ⟨#[]⟩, .int .i64 0, v] 33 (0, 0)) := by
  have hs := h.size
  exact (hg.block (b + 1) (by omega) (fun e => by have := own_base h.own (b + 1) e.symm; omega)).trans h.k1
theorem encU_piece {x : Int} (h0 : 0 ≤ x) (h1 : x < 256) : Value.int .u8 x = encU (UInt8.ofNat x.toNat) := by
  unfold encU
  have : (UInt8.ofNat x.toNat).toNat = x.toNat := by simp; omega
  rw [this]
  congr 1
  omega

theorem drew_block {W : World} {b : Nat} {o : Obj} (h : W.heap[b]? = some o) : W.drew.heap[b]? = some o := h
theorem wrap64_byte (c : UInt8) : wrap64 (c.toNat : Int) = c.toNat := by
  have := c.toNat_lt
  unfold wrap64
  omega
theorem u8_info : (Tryz.prog.info? 5).map (fun i => (i.zero, i.size, i.bytes)) = some (some (.int .u8 0), 1, 1) := by kernel_rfl

set_option maxHeartbeats 1000000 in
set_option maxRecDepth 20000 in
theorem quoted_calls (g a : Nat) (s : ByteArray) (p : Int) (w : World) (hS : ScanAt w g s 0 p) (hA : Amb w) (hs : s.size ≤ 4000) (h1 : a < s.size) :
    Calls Tryz.prog 65 #[.pointer (some ⟨g, 0, none⟩), .int .i64 a] w (ReadPost g s w (quotedR s.size a (s[a]'h1) (s.data.toList.drop (a + 1)))) := by
  have hc := hS.c0
  have hg := hS.lt
  have A := Lib.hid hA
  have S := Lib.hid hS
  clear hA hS
  obtain ⟨R, hR⟩ : ∃ R, R = quotedR s.size a (s[a]'h1) (s.data.toList.drop (a + 1)) := ⟨_, rfl⟩
  rw [← hR]
  obtain ⟨q, hq⟩ : ∃ q, q = s[a]'h1 := ⟨_, rfl⟩
  rw [← hq] at hR
  have HR := Lib.hid hR
  have HQ := Lib.hid hq
  clear hR hq
  go_enter Tryz.func65, Tryz.ntmps65
  go_wp2_with fail
  go_loopg [7] (s.size - (a + 1)) (fun gk t wr => ∃ k : Nat, ∃ bs v, a + 1 ≤ k ∧ k ≤ s.size ∧ gk = s.size - k ∧ bs.length + a + 1 ≤ k ∧ t = .int .i64 k ∧ QInv g w.heap.size a w bs v wr ∧ Hid (∃ f, s.size - k < f ∧ quotedS q (s.size - a) (s.data.toList.drop (a + 1)) = Quoted.onto bs (quotedS q f (s.data.toList.drop k))))
  case atStart =>
    refine ⟨a + 1, [], .slice none 0 0, by omega, by omega, rfl, by simp, by go_num, ⟨?_, ?_, ?_, ?_, ?_⟩, ?_⟩
    · exact ((Below.refl _ _).alloc (Nat.le_refl _) _).alloc (by simp) _
    · exact heap_one _ _ _
    · exact heap_two _ _ _
    · exact World.ownsRow_nil _ _ _ _
    · simp
    · exact ⟨s.size - a, by omega, by cases quotedS q (s.size - a) (s.data.toList.drop (a + 1)) <;> rfl⟩
  case round =>
    obtain ⟨k, bs, v, hk1, hk, rfl, hbl, rfl, hI, H⟩ := hrel
    have hS' := S.out.below hI.below
    have hc' := hS'.c0
    have hA' := A.out.below hI.below
    obtain ⟨a0, a1, a2, a3, a4, a5, af⟩ := cells6 hI.k0
    obtain ⟨b0, b1, b2, b3, b4, b5, bf⟩ := cells6 hI.k1
    obtain ⟨vA, vc, rfl⟩ := own_slice hI.own
    have hsz := hI.size
    have I := Lib.hid hI
    have S' := Lib.hid hS'
    have A' := Lib.hid hA'
    clear hI hS' hA'
    by_cases hlt : k < s.size
    · have hd : s.data.toList.drop k = s[k] :: s.data.toList.drop (k + 1) := List.drop_eq_getElem_cons (by simpa using hlt)
      have hr := piece_range (s[k]) (s.data.toList.drop (k + 1))
      have hfit := piece_fits (s[k]) (s.data.toList.drop (k + 1))
      have D := Lib.hid hd
      have PR := Lib.hid hr
      have PF := Lib.hid hfit
      clear hd hr hfit
      by_cases he : s[k] = s[a]
      · have hne : (((s[k]).toNat : Int) != ((s[a]'h1).toNat : Int)) = false := by rw [he]; simp
        have hR : R = quotedT a q (k - a) bs := by
          obtain ⟨f, hf, hqf⟩ := H.out
          obtain ⟨f, rfl⟩ : ∃ f', f = f' + 1 := ⟨f - 1, by omega⟩
          have hl : (s.data.toList.drop (a + 1)).length + 1 = s.size - a := by simp; omega
          have hd := D.out
          rw [he, ← HQ.out] at hd
          have hz : s.size - a - (q :: s.data.toList.drop (k + 1)).length = k - a := by simp; omega
          rw [HR.out, quotedR_done (bs := bs) (r' := q :: s.data.toList.drop (k + 1)) (by rw [hl, hqf, hd, quoted_end q f]; simp [Quoted.onto]), hl, hz]
        have HB := Lib.hid hR
        clear hR he
        have hka : ((k - a : Nat) : Int) = (k : Int) - a := by omega
        have HKA := Lib.hid hka
        clear hka
        by_cases h34 : q = 34
        · have h34' : (((s[a]'h1).toNat : Int) == 34) = true := by rw [← HQ.out, h34]; rfl
          have hR := HB.out.trans (quotedT_text h34)
          have HB' := Lib.hid hR
          clear hR h34
          go_wp2
          have hR := HB'.out
          subst hR
          refine bodyPost_ret (v := .agg #[.int .i64 5, .int .i64 a, .int .i64 ((k : Int) + 1 - a), .string ⟨#[]⟩, .int .i64 0, .slice vA bs.length vc]) (tok_result rfl rfl ?_) rfl ⟨⟨.slice vA bs.length vc, ?_, ?_⟩, ?_⟩
          · exact set6_block ((Below.heap_setCell _ _ _ _ (by simp)).trans I.out.k0) _ _ _ _ _ _
          · rw [tokVal, HKA.out, show (k : Int) + 1 - a = k - a + 1 by omega]
          · exact own_weaken (own_move I.out.own (fun b hb => (set6_far (by have := own_base I.out.own b hb; omega) _ _ _ _ _ _).trans (Below.heap_setCell _ _ _ _ (by have := own_base I.out.own b hb; simp; omega)))) (by omega)
          · exact set6_below (I.out.below.setCell (by simp) _) (Nat.le_refl _) _ _ _ _ _ _
        have h34' : (((s[a]'h1).toNat : Int) == 34) = false := beq_eq_false_iff_ne.2 (fun h => h34 (UInt8.toNat_inj.1 (by rw [HQ.out]; show (s[a]'h1).toNat = 34; omega)))
        by_cases hl1 : bs.length = 1
        · obtain ⟨c, rfl⟩ : ∃ c, bs = [c] := by
            match bs, hl1 with
            | [c], _ => exact ⟨c, rfl⟩
          obtain ⟨gb, cap, hv, hgb, hgs⟩ := I.out.own.form (by simp)
          injection hv with hv1 hv2 hv3
          subst hv1
          have hcl : wr.cell? ⟨gb, 0, none⟩ = some (encU c) := I.out.own.cells (g := gb) rfl 0 _ rfl
          unfold encU at hcl
          have hg1 : gb ≠ w.heap.size + 1 := by omega
          have hg2 : w.heap.size + 1 ≠ gb := by omega
          have hR := HB.out.trans (quotedT_char h34)
          have HB' := Lib.hid hR
          clear hR h34
          have hW0 : (wr.setCell ⟨w.heap.size + 1, 2, none⟩ (.int .i64 ((k : Int) + 1 - a))).heap[w.heap.size]? = _ := (Below.heap_setCell _ _ _ _ (by simp)).trans I.out.k0
          have hW1 := heap_set1 I.out.k1 2 (.int .i64 ((k : Int) + 1 - a))
          have hWb := I.out.below.setCell (p := ⟨w.heap.size + 1, 2, none⟩) (by simp) (.int .i64 ((k : Int) + 1 - a))
          have hWc : (wr.setCell ⟨w.heap.size + 1, 2, none⟩ (.int .i64 ((k : Int) + 1 - a))).cell? ⟨gb, 0, none⟩ = some (.int .u8 c.toNat) := (World.cell?_of_block (Below.heap_setCell _ _ _ _ (by simp; omega))).trans hcl
          have HW0 := Lib.hid hW0
          have HW1 := Lib.hid hW1
          have HWb := Lib.hid hWb
          have HWc := Lib.hid hWc
          clear hW0 hW1 hWb hWc
          go_upto_if 97 with fail
          go_cut [] from 6 to 110 (fun wc => wc = wr.setCell ⟨w.heap.size + 1, 2, none⟩ (.int .i64 ((k : Int) + 1 - a)))
          case first =>
            go_wp2
            go_meet
            case rel => rfl
          case rest =>
            subst hcut
            generalize wr.setCell ⟨w.heap.size + 1, 2, none⟩ (.int .i64 ((k : Int) + 1 - a)) = W at *
            clear a0 a1 a2 a3 a4 a5 af b0 b1 b2 b3 b4 b5 bf hc hc' hcl I S' A' S A
            have hW1 := HW1.out
            have hWc := HWc.out
            obtain ⟨b0, b1, b2, b3, b4, b5, bf⟩ := cells6 hW1
            clear hW1
            go_wp2
            obtain ⟨a0, a1, a2, a3, a4, a5, af⟩ := cells6 HW0.out
            go_region_law (fail)
            all_goals
              go_wp2
              have hR := HB'.out
              subst hR
              refine bodyPost_ret (v := .agg #[.int .i64 4, .int .i64 a, .int .i64 ((k : Int) + 1 - a), .string ⟨#[]⟩, .int .i64 (wrap64 c.toNat), .slice none 0 0]) (tok_result rfl rfl ?_) rfl ⟨⟨.slice none 0 0, ?_, ?_⟩, ?_⟩
              · exact drew_block (set6_block ((Below.heap_setCell _ _ _ _ (by simp)).trans ((Below.heap_setCell _ _ _ _ (by simp)).trans ((Below.heap_setCell _ _ _ _ (by simp)).trans HW0.out))) _ _ _ _ _ _)
              · rw [tokVal, HKA.out, show (k : Int) + 1 - a = k - a + 1 by omega, wrap64_byte]
              · exact World.ownsRow_nil _ _ _ _
              · exact (set6_below (((HWb.out.setCell (by simp) _).setCell (by simp) _).setCell (by simp) _) (Nat.le_refl _) _ _ _ _ _ _).drew
        · have hR := HB.out.trans (quotedT_wrong h34 hl1)
          have HB' := Lib.hid hR
          have hl1' : ((bs.length : Int) != 1) = true := bne_iff_ne.2 (by omega)
          clear hR h34 hl1
          go_wp2_with fail
          refine (fails_first g s 0 p 10 a _ (show ScanAt _ g s 0 p from (Below.heap_setCell _ _ _ _ (by simp; omega)).trans S'.out) rfl).mono ?_
          rintro e' w4 ⟨rfl, hS4, hg4⟩
          have hg5 := (grown_set (grown_of I.out.below (some g)) (by simp) _).trans hg4
          have hk0 := (hg4.block w.heap.size (by simp; omega) (by simp; omega)).trans ((Below.heap_setCell _ _ _ _ (by simp)).trans I.out.k0)
          have hk1 := (hg4.block (w.heap.size + 1) (by simp; omega) (by simp; omega)).trans (heap_set1 I.out.k1 2 _)
          clear a0 a1 a2 a3 a4 a5 af b0 b1 b2 b3 b4 b5 bf
          obtain ⟨a0, a1, a2, a3, a4, a5, af⟩ := cells6 hk0
          obtain ⟨b0, b1, b2, b3, b4, b5, bf⟩ := cells6 hk1
          have S4 := Lib.hid hS4
          have G5 := Lib.hid hg5
          have K0 := Lib.hid hk0
          clear hk0 hk1 hS4 hg4 hg5
          go_wp2
          have hR := HB'.out
          subst hR
          refine bodyPost_ret (v := .agg #[.int .i64 5, .int .i64 a, .int .i64 ((k : Int) + 1 - a), .string ⟨#[]⟩, .int .i64 0, .slice vA bs.length vc]) (tok_result rfl rfl ?_) rfl ⟨⟨_, _, _, _, _, _, _, _, rfl⟩, ?_, ?_⟩
          · exact set6_block K0.out _ _ _ _ _ _
          · exact (set6_far (by omega) _ _ _ _ _ _).trans S4.out
          · exact set6_grown G5.out (Nat.le_refl _) _ _ _ _ _ _
      have hne : (((s[k]).toNat : Int) != ((s[a]'h1).toNat : Int)) = true := bne_iff_ne.2 (fun h => he (UInt8.toNat_inj.1 (by omega)))
      have HE := Lib.hid he
      clear he
      by_cases h92 : s[k] = 92
      · have hb92 : (((s[k]).toNat : Int) == 92) = true := by rw [h92]; rfl
        have hpe : piece (s[k]) (s.data.toList.drop (k + 1)) = escapeOf (s.data.toList.drop k) := by
          unfold piece
          rw [if_pos h92, D.out]
        obtain ⟨⟨pv, pn⟩, hpp⟩ : ∃ x, x = escapeOf (s.data.toList.drop k) := ⟨_, rfl⟩
        have hpv := PR.out
        have hpf := PF.out
        rw [hpe, ← hpp] at hpv hpf
        simp only at hpv hpf
        have EX := Lib.hid hpp.symm
        have PE := Lib.hid (hpe.trans hpp.symm)
        clear hpe hpp h92
        by_cases hpn : pn = 0
        · subst hpn
          have hpc : (piece (s[k]) (s.data.toList.drop (k + 1))).2 = 0 := by rw [PE.out]
          have PC := Lib.hid hpc
          clear hpc
          obtain ⟨f, hf, hqf⟩ := H.out
          obtain ⟨f, rfl⟩ : ∃ f', f = f' + 1 := ⟨f - 1, by omega⟩
          have hbad : R = .error (10, (k : Int)) := by
            rw [HR.out]
            unfold quotedR
            rw [show (s.data.toList.drop (a + 1)).length + 1 = s.size - a by simp; omega, hqf, D.out, quoted_wrong q f _ _ (by rw [HQ.out]; exact HE.out) PC.out]
            simp only [Quoted.onto]
            rw [← D.out]
            simp
            omega
          have HB := Lib.hid hbad
          clear hbad hf hqf H
          go_wp2_with fail
          refine (rest_calls g s k _ hc' (by omega) (by omega)).mono ?_
          rintro e' w1 ⟨rfl, rfl⟩
          rw [show s.extract (k : Int).toNat s.size = s.extract k s.size from rfl]
          go_wp2_with fail
          refine (escape_calls _ _ A'.out (by simp; omega)).mono ?_
          rintro e' w2 ⟨rfl, hb2⟩
          rw [Lib.extract_to_end, EX.out]
          have hI2 := I.out.step hb2
          have hS2 := S'.out.below hb2
          clear a0 a1 a2 a3 a4 a5 af b0 b1 b2 b3 b4 b5 bf hb2 hc' I S' A'
          have hsz := hI2.size
          obtain ⟨a0, a1, a2, a3, a4, a5, af⟩ := cells6 hI2.k0
          obtain ⟨b0, b1, b2, b3, b4, b5, bf⟩ := cells6 hI2.k1
          have I := Lib.hid hI2
          have S' := Lib.hid hS2
          clear hI2 hS2
          go_wp2_with fail
          refine (fails_first g s 0 p 10 k _ S'.out rfl).mono ?_
          rintro e' w4 ⟨rfl, hS4, hg4⟩
          have hg5 := (grown_of I.out.below (some g)).trans hg4
          have hk0 := (hg4.block w.heap.size (by omega) (by simp; omega)).trans I.out.k0
          have hk1 := (hg4.block (w.heap.size + 1) (by omega) (by simp; omega)).trans I.out.k1
          clear a0 a1 a2 a3 a4 a5 af b0 b1 b2 b3 b4 b5 bf
          obtain ⟨a0, a1, a2, a3, a4, a5, af⟩ := cells6 hk0
          obtain ⟨b0, b1, b2, b3, b4, b5, bf⟩ := cells6 hk1
          have S4 := Lib.hid hS4
          have G5 := Lib.hid hg5
          have K0 := Lib.hid hk0
          clear hk0 hk1 hS4 hg4 hg5
          go_wp2
          have hR := HB.out
          subst hR
          refine bodyPost_ret (v := .agg #[.int .i64 5, .int .i64 a, .int .i64 0, .string ⟨#[]⟩, .int .i64 0, .slice vA bs.length vc]) (tok_result rfl rfl ?_) rfl ⟨⟨_, _, _, _, _, _, _, _, rfl⟩, ?_, ?_⟩
          · exact set6_block K0.out _ _ _ _ _ _
          · exact (set6_far (by omega) _ _ _ _ _ _).trans S4.out
          · exact set6_grown G5.out (Nat.le_refl _) _ _ _ _ _ _
        have hkn : k + pn ≤ s.size := by simp at hpf; omega
        obtain ⟨hv0, hv1⟩ := hpv
        have hpn0 : ((pn : Int) == 0) = false := beq_eq_false_iff_ne.2 (by omega)
        clear hpf
        go_wp2_with fail
        refine (rest_calls g s k _ hc' (by omega) (by omega)).mono ?_
        rintro e' w1 ⟨rfl, rfl⟩
        rw [show s.extract (k : Int).toNat s.size = s.extract k s.size from rfl]
        go_wp2_with fail
        refine (escape_calls _ _ A'.out (by simp; omega)).mono ?_
        rintro e' w2 ⟨rfl, hb2⟩
        rw [Lib.extract_to_end, EX.out]
        have hI2 := I.out.step hb2
        have hsz2 := hI2.size
        clear a0 a1 a2 a3 a4 a5 af b0 b1 b2 b3 b4 b5 bf hb2 hc' I S' A' hsz
        obtain ⟨a0, a1, a2, a3, a4, a5, af⟩ := cells6 hI2.k0
        obtain ⟨b0, b1, b2, b3, b4, b5, bf⟩ := cells6 hI2.k1
        have I := Lib.hid hI2
        clear hI2
        go_wp2_with (at_builtin; refine print_append_cells (w.heap.size + 2) rfl _ _ 31 5 (.int .u8 0) 1 1 rfl ?_ u8_info rfl (by decide) (by decide) _ bs.length (bs.map encU) [.int .u8 pv] ?_ ?_ ?_ ?_ I.out.own (Below.refl _ w2) hsz2 ?_ ?_)
        case refine_1 => kernel_rfl
        case refine_2 => first | (go_simp; done) | (go_simp; rfl)
        case refine_3 => first | (go_simp; done) | (go_simp; rfl)
        case refine_4 => rfl
        case refine_5 =>
          intro u hu
          rw [List.mem_singleton.1 hu]
          rfl
        case refine_6 => omega
        · intro v1 w1 ho1 hb1 hg1 hat1
          obtain ⟨A1, c1, rfl⟩ := own_slice ho1
          obtain ⟨d0, d1, d2, d3, d4, d5, df⟩ := cells6 (I.out.mid hg1)
          have hQ := I.out.put (encU_piece hv0 hv1) ho1 hg1
          have Q := Lib.hid hQ
          clear hQ ho1 hb1 hg1 hat1
          go_wp2
          go_roundg (s.size - (k + pn))
          case rel =>
            refine ⟨k + pn, bs ++ [UInt8.ofNat pv.toNat], _, by omega, by omega, rfl, by simp; omega, by go_num, Q.out, ?_⟩
            obtain ⟨f, hf, hqf⟩ := H.out
            obtain ⟨f, rfl⟩ : ∃ f', f = f' + 1 := ⟨f - 1, by omega⟩
            refine ⟨f, by omega, ?_⟩
            rw [hqf, D.out, quoted_more q f _ _ (by rw [HQ.out]; exact HE.out) (by rw [PE.out]; exact hpn), Quoted.onto_onto, PE.out, ← D.out]
            simp only [List.drop_drop]
          case measure => omega
      have hb92 : (((s[k]).toNat : Int) == 92) = false := beq_eq_false_iff_ne.2 (fun h => h92 (UInt8.toNat_inj.1 (by show (s[k]).toNat = 92; omega)))
      have H92 := Lib.hid h92
      clear h92
      by_cases hlo : ((s[k]).toNat : Int) < 32
      · have hpc : (piece (s[k]) (s.data.toList.drop (k + 1))).2 = 0 := by
          unfold piece
          rw [if_neg H92.out, if_pos (by omega)]
        have PC := Lib.hid hpc
        clear hpc
        obtain ⟨f, hf, hqf⟩ := H.out
        obtain ⟨f, rfl⟩ : ∃ f', f = f' + 1 := ⟨f - 1, by omega⟩
        have hbad : R = .error (10, (k : Int)) := by
          rw [HR.out]
          unfold quotedR
          rw [show (s.data.toList.drop (a + 1)).length + 1 = s.size - a by simp; omega, hqf, D.out, quoted_wrong q f _ _ (by rw [HQ.out]; exact HE.out) PC.out]
          simp only [Quoted.onto]
          rw [← D.out]
          simp
          omega
        have HB := Lib.hid hbad
        clear hbad hf hqf H
        go_wp2_with fail
        refine (fails_first g s 0 p 10 k _ S'.out rfl).mono ?_
        rintro e' w4 ⟨rfl, hS4, hg4⟩
        have hg5 := (grown_of I.out.below (some g)).trans hg4
        have hk0 := (hg4.block w.heap.size (by omega) (by simp; omega)).trans I.out.k0
        have hk1 := (hg4.block (w.heap.size + 1) (by omega) (by simp; omega)).trans I.out.k1
        clear a0 a1 a2 a3 a4 a5 af b0 b1 b2 b3 b4 b5 bf
        obtain ⟨a0, a1, a2, a3, a4, a5, af⟩ := cells6 hk0
        obtain ⟨b0, b1, b2, b3, b4, b5, bf⟩ := cells6 hk1
        have S4 := Lib.hid hS4
        have G5 := Lib.hid hg5
        have K0 := Lib.hid hk0
        clear hk0 hk1 hS4 hg4 hg5
        go_wp2
        have hR := HB.out
        subst hR
        refine bodyPost_ret (v := .agg #[.int .i64 5, .int .i64 a, .int .i64 0, .string ⟨#[]⟩, .int .i64 0, .slice vA bs.length vc]) (tok_result rfl rfl ?_) rfl ⟨⟨_, _, _, _, _, _, _, _, rfl⟩, ?_, ?_⟩
        · exact set6_block K0.out _ _ _ _ _ _
        · exact (set6_far (by omega) _ _ _ _ _ _).trans S4.out
        · exact set6_grown G5.out (Nat.le_refl _) _ _ _ _ _ _
      by_cases hhi : 126 < ((s[k]).toNat : Int)
      · have hpc : (piece (s[k]) (s.data.toList.drop (k + 1))).2 = 0 := by
          unfold piece
          rw [if_neg H92.out, if_pos (by omega)]
        have PC := Lib.hid hpc
        clear hpc
        obtain ⟨f, hf, hqf⟩ := H.out
        obtain ⟨f, rfl⟩ : ∃ f', f = f' + 1 := ⟨f - 1, by omega⟩
        have hbad : R = .error (10, (k : Int)) := by
          rw [HR.out]
          unfold quotedR
          rw [show (s.data.toList.drop (a + 1)).length + 1 = s.size - a by simp; omega, hqf, D.out, quoted_wrong q f _ _ (by rw [HQ.out]; exact HE.out) PC.out]
          simp only [Quoted.onto]
          rw [← D.out]
          simp
          omega
        have HB := Lib.hid hbad
        clear hbad hf hqf H
        go_wp2_with fail
        refine (fails_first g s 0 p 10 k _ S'.out rfl).mono ?_
        rintro e' w4 ⟨rfl, hS4, hg4⟩
        have hg5 := (grown_of I.out.below (some g)).trans hg4
        have hk0 := (hg4.block w.heap.size (by omega) (by simp; omega)).trans I.out.k0
        have hk1 := (hg4.block (w.heap.size + 1) (by omega) (by simp; omega)).trans I.out.k1
        clear a0 a1 a2 a3 a4 a5 af b0 b1 b2 b3 b4 b5 bf
        obtain ⟨a0, a1, a2, a3, a4, a5, af⟩ := cells6 hk0
        obtain ⟨b0, b1, b2, b3, b4, b5, bf⟩ := cells6 hk1
        have S4 := Lib.hid hS4
        have G5 := Lib.hid hg5
        have K0 := Lib.hid hk0
        clear hk0 hk1 hS4 hg4 hg5
        go_wp2
        have hR := HB.out
        subst hR
        refine bodyPost_ret (v := .agg #[.int .i64 5, .int .i64 a, .int .i64 0, .string ⟨#[]⟩, .int .i64 0, .slice vA bs.length vc]) (tok_result rfl rfl ?_) rfl ⟨⟨_, _, _, _, _, _, _, _, rfl⟩, ?_, ?_⟩
        · exact set6_block K0.out _ _ _ _ _ _
        · exact (set6_far (by omega) _ _ _ _ _ _).trans S4.out
        · exact set6_grown G5.out (Nat.le_refl _) _ _ _ _ _ _
      have hpc : piece (s[k]) (s.data.toList.drop (k + 1)) = (((s[k]).toNat : Int), 1) := by
        unfold piece
        rw [if_neg H92.out, if_neg (by omega)]
      have PC := Lib.hid hpc
      clear hpc
      go_wp2_with (at_builtin; refine print_append_cells (w.heap.size + 2) rfl _ _ 31 5 (.int .u8 0) 1 1 rfl ?_ u8_info rfl (by decide) (by decide) _ bs.length (bs.map encU) [.int .u8 (s[k]).toNat] ?_ ?_ ?_ ?_ I.out.own (Below.refl _ wr) hsz ?_ ?_)
      · rfl
      · omega
      · intro v1 w1 ho1 hb1 hg1 hat1
        obtain ⟨d0, d1, d2, d3, d4, d5, df⟩ := cells6 (I.out.mid hg1)
        obtain ⟨A1, c1, rfl⟩ := own_slice ho1
        have hQ := I.out.put rfl ho1 hg1
        have Q := Lib.hid hQ
        clear hQ ho1 hb1 hg1 hat1
        go_wp2
        go_roundg (s.size - (k + 1))
        case rel =>
          refine ⟨k + 1, bs ++ [s[k]], _, by omega, by omega, rfl, by simp; omega, by go_num, Q.out, ?_⟩
          obtain ⟨f, hf, hqf⟩ := H.out
          obtain ⟨f, rfl⟩ : ∃ f', f = f' + 1 := ⟨f - 1, by omega⟩
          refine ⟨f, by omega, ?_⟩
          rw [hqf, D.out, quoted_more q f _ _ (by rw [HQ.out]; exact HE.out) (by rw [PC.out]; simp), Quoted.onto_onto, PC.out]
          simp
        case measure => omega
    · have hgone : R = .error (4, (a : Int)) := by
        obtain ⟨f, hf, hqf⟩ := H.out
        rw [HR.out]
        unfold quotedR
        rw [show (s.data.toList.drop (a + 1)).length + 1 = s.size - a by simp; omega, hqf, show s.data.toList.drop k = [] by simp; omega]
        cases f <;> rfl
      have HB := Lib.hid hgone
      have hke : k = s.size := by omega
      clear hgone H
      go_wp2_with fail
      refine (fails_first g s 0 p 4 a _ S'.out rfl).mono ?_
      rintro e' w4 ⟨rfl, hS4, hg4⟩
      have hg5 := (grown_of I.out.below (some g)).trans hg4
      have hk0 := (hg4.block w.heap.size (by omega) (by simp; omega)).trans I.out.k0
      have hk1 := (hg4.block (w.heap.size + 1) (by omega) (by simp; omega)).trans I.out.k1
      clear a0 a1 a2 a3 a4 a5 af b0 b1 b2 b3 b4 b5 bf
      obtain ⟨a0, a1, a2, a3, a4, a5, af⟩ := cells6 hk0
      obtain ⟨b0, b1, b2, b3, b4, b5, bf⟩ := cells6 hk1
      have S4 := Lib.hid hS4
      have G5 := Lib.hid hg5
      have K0 := Lib.hid hk0
      clear hk0 hk1 hS4 hg4 hg5
      go_wp2
      have hR := HB.out
      subst hR
      refine bodyPost_ret (v := .agg #[.int .i64 5, .int .i64 a, .int .i64 0, .string ⟨#[]⟩, .int .i64 0, .slice vA bs.length vc]) (tok_result rfl rfl ?_) rfl ⟨⟨_, _, _, _, _, _, _, _, rfl⟩, ?_, ?_⟩
      · exact set6_block K0.out _ _ _ _ _ _
      · exact (set6_far (by omega) _ _ _ _ _ _).trans S4.out
      · exact set6_grown G5.out (Nat.le_refl _) _ _ _ _ _ _
end Go.Proofs.YtnhmgjochmollaaGreatDoor

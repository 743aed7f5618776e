/- Contract of lex's reader of numbers. Conditions: the scan's block, a digit at the place, a source of at most 4000 bytes; what the library's variables hold (Amb). -/
import Derived.Test.YtnhmgjochmollaaGreatDoorLexJ
namespace Go.Proofs.YtnhmgjochmollaaGreatDoor
open Go.RowKit
set_option linter.unusedSimpArgs false
set_option linter.unusedVariables false

/-- What a reader hands back: a token, or some token and what is wrong noted. -/
def ReadPost (g : Nat) (s : ByteArray) (w : World) (r : Except (Int × Int) Tok) (e' : Ending) (w' : World) : Prop :=
  match r with
  | .ok t => (∃ v, e' = .returned (tokVal t v) ∧ w'.ownsRow w.heap.size 5 1 v t.bytes.length (t.bytes.map fun c => Value.int .u8 c.toNat)) ∧ Below w.heap.size w w'
  | .error p => (∃ k a z n : Int, ∃ x A ln cp, e' = .returned (.agg #[.int .i64 k, .int .i64 a, .int .i64 z, .string x, .int .i64 n, .slice A ln cp])) ∧ ScanAt w' g s p.1 p.2 ∧ w.grownBy w' (some g)

theorem grown_set {w W : World} {row : Option Nat} (h : w.grownBy W row) {p : Addr} (hp : w.heap.size ≤ p.block) (v : Value) : w.grownBy (W.setCell p v) row :=
  have k := (Below.refl p.block W).setCell (p := p) (Nat.le_refl _) v
  ⟨k.os.trans h.os, k.tape.trans h.tape, k.output.trans h.output, Nat.le_trans h.size k.size, fun i hi hr => (k.block i (Nat.lt_of_lt_of_le hi hp)).trans (h.block i hi hr)⟩

theorem split_calls (s : ByteArray) (w : World) (hs : s.size ≤ 4000) (h0 : 0 < s.size) :
    Calls Tryz.prog 105 #[.string s] w fun e w' => e = .returned (.tuple #[.int .i64 (splitOf s.data.toList).1, .string ⟨(splitOf s.data.toList).2.1.toArray⟩, .string ⟨(splitOf s.data.toList).2.2.toArray⟩]) ∧ Below w.heap.size w w' := by
  cases h : isHex s.data.toList
  · exact split_plain s w hs h0 h
  · have := split_hex s w hs h
    unfold splitOf
    rw [if_pos h]
    exact this

theorem splitOf_base (l : List UInt8) : (splitOf l).1 = 8 ∨ (splitOf l).1 = 10 ∨ (splitOf l).1 = 16 := by
  unfold splitOf
  split
  · exact .inr (.inr rfl)
  · split
    · exact .inl rfl
    · exact .inr (.inl rfl)
theorem parse_any (b : Int) (hb : b = 8 ∨ b = 10 ∨ b = 16) (s : ByteArray) (w : World) (hA : Amb w) (h0 : s.size ≠ 0) (hs : s.size ≤ 4000) :
    Calls Tryz.prog 107 #[.string s, .int .i64 b, .int .i64 64] w (PuPost (pu b.toNat 18446744073709551615 0 s.data.toList) w) := by
  rcases hb with rfl | rfl | rfl
  · exact parse_8 s w hA h0 hs
  · exact parse_10 s w hA h0 hs
  · exact parse_16 s w hA h0 hs
theorem splitOf_sub (l : List UInt8) : (splitOf l).2.1.length ≤ l.length ∧ (splitOf l).2.2.length ≤ l.length ∧ (∀ c ∈ (splitOf l).2.2, c ∈ l) := by
  unfold splitOf
  split
  · refine ⟨?_, ?_, fun c hc => ?_⟩
    · exact Nat.le_trans (List.takeWhile_sublist _).length_le (List.drop_sublist _ _).length_le
    · exact Nat.le_trans (List.dropWhile_sublist _).length_le (List.drop_sublist _ _).length_le
    · exact (List.drop_sublist _ _).subset ((List.dropWhile_sublist _).subset hc)
  · split
    · exact ⟨(List.takeWhile_sublist _).length_le, (List.dropWhile_sublist _).length_le, fun c hc => (List.dropWhile_sublist _).subset hc⟩
    · exact ⟨(List.takeWhile_sublist _).length_le, (List.dropWhile_sublist _).length_le, fun c hc => (List.dropWhile_sublist _).subset hc⟩

/-- A number of the bytes x at the place a. -/
def numberS (a : Int) (x : List UInt8) : Except (Int × Int) Tok :=
  match suffixOf (splitOf x).2.2 with
  | none => .error (10, a)
  | some s => if (splitOf x).2.1 = [] then .error (10, a) else
    match pu (splitOf x).1.toNat 18446744073709551615 0 (splitOf x).2.1 with
    | .ok v => .ok ⟨3, a, x.length, s, wrap64 v, []⟩
    | _ => .error (5, a)

theorem run_parts (l : List UInt8) : ∀ c ∈ l.take (runLen l), partB (c.toNat : Int) = true := by
  induction l with
  | nil => intro c hc; simp at hc
  | cons a l ih =>
    intro c hc
    unfold runLen at hc ih
    cases hp : partB (a.toNat : Int)
    · simp [hp] at hc
    · simp [hp] at hc
      rcases hc with rfl | hc
      · exact hp
      · exact ih c hc
theorem part_ascii (c : UInt8) (h : partB (c.toNat : Int) = true) : c.toNat < 128 := by
  simp [partB, digB, letB] at h
  omega

set_option maxHeartbeats 1000000 in
theorem number_calls (g a : Nat) (s : ByteArray) (p : Int) (w : World) (hS : ScanAt w g s 0 p) (hA : Amb w) (hs : s.size ≤ 4000) (h1 : a < s.size) (hd : partB ((s[a]'h1).toNat : Int) = true) (hgl : gN ≤ g) :
    Calls Tryz.prog 64 #[.pointer (some ⟨g, 0, none⟩), .int .i64 a] w (ReadPost g s w (numberS a ((s.data.toList.drop a).take (runLen (s.data.toList.drop a))))) := by
  have hc := hS.c0
  have hg := hS.lt
  have A := Lib.hid hA
  have S := Lib.hid hS
  clear hA hS
  obtain ⟨x, hx⟩ : ∃ x : ByteArray, x = s.extract a (a + runLen (s.data.toList.drop a)) := ⟨_, rfl⟩
  have hxl : x.data.toList = (s.data.toList.drop a).take (runLen (s.data.toList.drop a)) := by rw [hx, Lib.extract_data]; congr 1; omega
  have hxz : x.size = runLen (s.data.toList.drop a) := by
    have := congrArg List.length hxl
    rw [List.length_take, Nat.min_eq_left (runLen_le _)] at this
    simpa using this
  have hx0 : 0 < x.size := by
    rw [hxz]
    have e : s.data.toList.drop a = s[a]'h1 :: s.data.toList.drop (a + 1) := List.drop_eq_getElem_cons (by simpa using h1)
    rw [e]
    simp [runLen, hd]
  have hx4 : x.size ≤ 4000 := by
    rw [hxz]
    have := runLen_le (s.data.toList.drop a)
    simp at this
    omega
  have hxa : ∀ c ∈ x.data.toList, c.toNat < 128 := by
    intro c hc
    rw [hxl] at hc
    exact part_ascii c (run_parts _ c hc)
  rw [← hxl]
  have HX := Lib.hid hx
  clear hxl hxz hd hx
  obtain ⟨l, hl⟩ : ∃ l, l = x.data.toList := ⟨_, rfl⟩
  have hll : x.size = l.length := by rw [hl]; simp
  rw [← hl] at hxa ⊢
  obtain ⟨b, d, t, hbt⟩ : ∃ b d t, splitOf l = (b, d, t) := ⟨_, _, _, rfl⟩
  have hsub := splitOf_sub l
  have hbase := splitOf_base l
  rw [hbt] at hsub hbase
  obtain ⟨hd1, ht1, ht2⟩ := hsub
  simp only at hd1 ht1 ht2 hbase
  have hta : Ascii ⟨t.toArray⟩ := by
    intro j c hc
    exact hxa c (ht2 c (List.mem_of_getElem? (by simpa using hc)))
  have hpost : numberS a l = match suffixOf t with
    | none => .error (10, (a : Int))
    | some s => if d = [] then .error (10, (a : Int)) else
      match pu b.toNat 18446744073709551615 0 d with
      | .ok v => .ok ⟨3, a, l.length, s, wrap64 v, []⟩
      | _ => .error (5, (a : Int)) := by
    unfold numberS
    rw [hbt]
  obtain ⟨R, hR⟩ : ∃ R, R = numberS a l := ⟨_, rfl⟩
  rw [← hR]
  rw [hpost] at hR
  obtain ⟨sf, hsf⟩ : ∃ sf, sf = suffixOf t := ⟨_, rfl⟩
  rw [← hsf] at hR
  have HR := Lib.hid hR
  have HL := Lib.hid hl
  have HB := Lib.hid hbt
  have HT := Lib.hid hta
  have HS := Lib.hid hsf
  have BB := Lib.hid hbase
  clear hl hbt hta hsf hxa hpost ht2 hbase hR
  go_enter Tryz.func64, Tryz.ntmps64
  go_wp2_with fail
  refine (run_calls g s a _ ?_ (by omega) hs).mono ?_
  · exact (S.out.below (((Below.refl _ _).alloc (Nat.le_refl _) _).alloc (by simp) _)).c0
  rintro e' w1 ⟨rfl, rfl⟩
  rw [← HX.out]
  go_wp2_with fail
  refine (split_calls _ _ hx4 hx0).mono ?_
  rintro e' w2 ⟨rfl, hb2⟩
  rw [← HL.out, HB.out]
  have hk0 := (hb2.block w.heap.size (by simp; omega)).trans (heap_one _ _ _)
  have hk1 := (hb2.block (w.heap.size + 1) (by simp)).trans (heap_two _ _ _)
  have hw2 := (((Below.refl _ _).alloc (Nat.le_refl _) _).alloc (by simp) _).trans (hb2.mono (by simp; omega))
  have K0 := Lib.hid hk0
  have K1 := Lib.hid hk1
  have W2 := Lib.hid hw2
  have hz2 : w.heap.size + 2 ≤ w2.heap.size := by have := hb2.size; simp at this; omega
  clear hk0 hk1 hw2 hb2
  go_wp2_with fail
  refine (suffix_calls _ _ (by rw [show (ByteArray.mk t.toArray).size = t.length by simp [ByteArray.size]]; omega) HT.out).mono ?_
  rintro e' w3 ⟨rfl, hb3⟩
  rw [show (ByteArray.mk t.toArray).data.toList = t from rfl, ← HS.out]
  have hk0 := (hb3.block w.heap.size (by omega)).trans K0.out
  have hk1 := (hb3.block (w.heap.size + 1) (by omega)).trans K1.out
  have hw3 := W2.out.trans (hb3.mono (by omega))
  have hz3 : w.heap.size + 2 ≤ w3.heap.size := by have := hb3.size; omega
  obtain ⟨a0, a1, a2, a3, a4, a5, af⟩ := cells6 hk0
  obtain ⟨b0, b1, b2, b3, b4, b5, bf⟩ := cells6 hk1
  have hS3 := S.out.below hw3
  have hA3 := A.out.below hw3
  clear K0 K1 W2 hb3 hc
  have K0 := Lib.hid hk0
  have K1 := Lib.hid hk1
  have W3 := Lib.hid hw3
  have S3 := Lib.hid hS3
  have A3 := Lib.hid hA3
  clear hk0 hk1 hw3 hS3 hA3
  cases sf with
  | none =>
    rw [show ((none : Option (List UInt8)).isSome) = false from rfl, show ((none : Option (List UInt8)).getD []) = [] from rfl]
    go_wp2_with fail
    refine (fails_first g s 0 p 10 a _ S3.out rfl).mono ?_
    rintro e' w4 ⟨rfl, hS4, hg4⟩
    have hk0 := (hg4.block w.heap.size (by omega) (by simp; omega)).trans K0.out
    have hk1 := (hg4.block (w.heap.size + 1) (by omega) (by simp; omega)).trans K1.out
    obtain ⟨a0, a1, a2, a3, a4, a5, af⟩ := cells6 hk0
    obtain ⟨b0, b1, b2, b3, b4, b5, bf⟩ := cells6 hk1
    have S4 := Lib.hid hS4
    have G4 := Lib.hid hg4
    have K4 := Lib.hid hk0
    clear hS4 hg4 hk0 hk1
    go_wp2
    have hR : R = .error (10, (a : Int)) := HR.out
    subst hR
    refine bodyPost_ret (v := .agg #[.int .i64 3, .int .i64 a, .int .i64 0, .string ByteArray.empty, .int .i64 0, .slice none 0 0]) (tok_result rfl rfl ?_) rfl ⟨⟨_, _, _, _, _, _, _, _, rfl⟩, ?_, ?_⟩
    · exact set6_block K4.out _ _ _ _ _ _
    · exact (set6_far (by omega) _ _ _ _ _ _).trans S4.out
    · exact set6_grown ((grown_of W3.out _).trans G4.out) (Nat.le_refl _) _ _ _ _ _ _
  | some sf =>
    rw [show ((some sf).isSome) = true from rfl, show ((some sf).getD []) = sf from rfl]
    cases d with
    | nil =>
      go_wp2_with fail
      refine (fails_first g s 0 p 10 a _ S3.out rfl).mono ?_
      rintro e' w4 ⟨rfl, hS4, hg4⟩
      have hk0 := (hg4.block w.heap.size (by omega) (by simp; omega)).trans K0.out
      have hk1 := (hg4.block (w.heap.size + 1) (by omega) (by simp; omega)).trans K1.out
      obtain ⟨a0, a1, a2, a3, a4, a5, af⟩ := cells6 hk0
      obtain ⟨b0, b1, b2, b3, b4, b5, bf⟩ := cells6 hk1
      have S4 := Lib.hid hS4
      have G4 := Lib.hid hg4
      have K4 := Lib.hid hk0
      clear hS4 hg4 hk0 hk1
      go_wp2
      have hR : R = .error (10, (a : Int)) := HR.out.trans (by simp)
      subst hR
      refine bodyPost_ret (v := .agg #[.int .i64 3, .int .i64 a, .int .i64 0, .string ByteArray.empty, .int .i64 0, .slice none 0 0]) (tok_result rfl rfl ?_) rfl ⟨⟨_, _, _, _, _, _, _, _, rfl⟩, ?_, ?_⟩
      · exact set6_block K4.out _ _ _ _ _ _
      · exact (set6_far (by omega) _ _ _ _ _ _).trans S4.out
      · exact set6_grown ((grown_of W3.out _).trans G4.out) (Nat.le_refl _) _ _ _ _ _ _
    | cons d0 ds =>
      have h0 : (ByteArray.mk (d0 :: ds).toArray).size ≠ 0 := by simp [ByteArray.size]
      have h4 : (ByteArray.mk (d0 :: ds).toArray).size ≤ 4000 := by simp [ByteArray.size] at hd1 ⊢; omega
      go_wp2_with fail
      refine (parse_any b BB.out _ _ A3.out h0 h4).mono ?_
      rintro e' w4 ⟨hb4, hp4⟩
      rw [show (ByteArray.mk (d0 :: ds).toArray).data.toList = d0 :: ds from rfl] at hp4
      have hk0 := (hb4.block w.heap.size (by omega)).trans K0.out
      have hk1 := (hb4.block (w.heap.size + 1) (by omega)).trans K1.out
      have hw4 := W3.out.trans (hb4.mono (by omega))
      have hz4 : w.heap.size + 2 ≤ w4.heap.size := by have := hb4.size; omega
      have hS4 := S3.out.below hb4
      clear K0 K1 W3 hb4 a0 a1 a2 a3 a4 a5 af b0 b1 b2 b3 b4 b5 bf S3
      obtain ⟨a0, a1, a2, a3, a4, a5, af⟩ := cells6 hk0
      obtain ⟨b0, b1, b2, b3, b4, b5, bf⟩ := cells6 hk1
      have K0 := Lib.hid hk0
      have K1 := Lib.hid hk1
      have W4 := Lib.hid hw4
      have S4 := Lib.hid hS4
      clear hk0 hk1 hw4 hS4
      obtain ⟨r, hr⟩ : ∃ r, r = pu b.toNat 18446744073709551615 0 (d0 :: ds) := ⟨_, rfl⟩
      rw [← hr] at hp4
      have HR' := Lib.hid (HR.out.trans (if_neg (by simp)))
      rw [← hr] at HR'
      clear hr h0 h4 HR
      rcases r with u | _ | _
      ·
        simp only at hp4
        subst hp4
        go_wp2
        have hR : R = .ok ⟨3, a, l.length, sf, wrap64 u, []⟩ := HR'.out
        subst hR
        refine bodyPost_ret (v := .agg #[.int .i64 3, .int .i64 a, .int .i64 l.length, .string ⟨sf.toArray⟩, .int .i64 (wrap64 u), .slice none 0 0]) (tok_result rfl rfl ?_) rfl ?_
        · exact set6_block (((Below.heap_setCell _ _ _ _ (by simp)).trans ((Below.heap_setCell _ _ _ _ (by simp)).trans (Below.heap_setCell _ _ _ _ (by simp)))).trans K0.out) _ _ _ _ _ _
        · exact ⟨⟨_, rfl, World.ownsRow_nil _ _ _ _⟩, set6_below (((W4.out.setCell (by simp) _).setCell (by simp) _).setCell (by simp) _) (Nat.le_refl _) _ _ _ _ _ _⟩
      ·
        obtain ⟨n, T, y, rfl⟩ := hp4
        go_wp2_with fail
        refine (fails_first g s 0 p 5 a _ S4.out rfl).mono ?_
        rintro e' w5 ⟨rfl, hS5, hg5⟩
        have hk0 := (hg5.block w.heap.size (by omega) (by simp; omega)).trans K0.out
        have hk1 := (hg5.block (w.heap.size + 1) (by omega) (by simp; omega)).trans K1.out
        clear K0 K1 a0 a1 a2 a3 a4 a5 af b0 b1 b2 b3 b4 b5 bf
        obtain ⟨a0, a1, a2, a3, a4, a5, af⟩ := cells6 hk0
        obtain ⟨b0, b1, b2, b3, b4, b5, bf⟩ := cells6 hk1
        have hw5 := (grown_of W4.out _).trans hg5
        have K0 := Lib.hid hk0
        have S5 := Lib.hid hS5
        have G5 := Lib.hid hw5
        clear hk0 hk1 hS5 hg5 hw5
        go_wp2
        have hR : R = .error (5, (a : Int)) := HR'.out
        subst hR
        refine bodyPost_ret (v := .agg #[.int .i64 3, .int .i64 a, .int .i64 l.length, .string ⟨sf.toArray⟩, .int .i64 (wrap64 n), .slice none 0 0]) (tok_result rfl rfl ?_) rfl ⟨⟨_, _, _, _, _, _, _, _, rfl⟩, ?_, ?_⟩
        · exact set6_block (((Below.heap_setCell _ _ _ _ (by simp)).trans ((Below.heap_setCell _ _ _ _ (by simp)).trans (Below.heap_setCell _ _ _ _ (by simp)))).trans K0.out) _ _ _ _ _ _
        · exact ((set6_far (by omega) _ _ _ _ _ _).trans ((Below.heap_setCell _ _ _ _ (by simp; omega)).trans ((Below.heap_setCell _ _ _ _ (by simp; omega)).trans (Below.heap_setCell _ _ _ _ (by simp; omega))))).trans S5.out
        · exact set6_grown (grown_set (grown_set (grown_set G5.out (by simp) _) (by simp) _) (by simp) _) (Nat.le_refl _) _ _ _ _ _ _
      ·
        obtain ⟨n, T, y, rfl⟩ := hp4
        go_wp2_with fail
        refine (fails_first g s 0 p 5 a _ S4.out rfl).mono ?_
        rintro e' w5 ⟨rfl, hS5, hg5⟩
        have hk0 := (hg5.block w.heap.size (by omega) (by simp; omega)).trans K0.out
        have hk1 := (hg5.block (w.heap.size + 1) (by omega) (by simp; omega)).trans K1.out
        clear K0 K1 a0 a1 a2 a3 a4 a5 af b0 b1 b2 b3 b4 b5 bf
        obtain ⟨a0, a1, a2, a3, a4, a5, af⟩ := cells6 hk0
        obtain ⟨b0, b1, b2, b3, b4, b5, bf⟩ := cells6 hk1
        have hw5 := (grown_of W4.out _).trans hg5
        have K0 := Lib.hid hk0
        have S5 := Lib.hid hS5
        have G5 := Lib.hid hw5
        clear hk0 hk1 hS5 hg5 hw5
        go_wp2
        have hR : R = .error (5, (a : Int)) := HR'.out
        subst hR
        refine bodyPost_ret (v := .agg #[.int .i64 3, .int .i64 a, .int .i64 l.length, .string ⟨sf.toArray⟩, .int .i64 (wrap64 n), .slice none 0 0]) (tok_result rfl rfl ?_) rfl ⟨⟨_, _, _, _, _, _, _, _, rfl⟩, ?_, ?_⟩
        · exact set6_block (((Below.heap_setCell _ _ _ _ (by simp)).trans ((Below.heap_setCell _ _ _ _ (by simp)).trans (Below.heap_setCell _ _ _ _ (by simp)))).trans K0.out) _ _ _ _ _ _
        · exact ((set6_far (by omega) _ _ _ _ _ _).trans ((Below.heap_setCell _ _ _ _ (by simp; omega)).trans ((Below.heap_setCell _ _ _ _ (by simp; omega)).trans (Below.heap_setCell _ _ _ _ (by simp; omega))))).trans S5.out
        · exact set6_grown (grown_set (grown_set (grown_set G5.out (by simp) _) (by simp) _) (by simp) _) (Nat.le_refl _) _ _ _ _ _ _
end Go.Proofs.YtnhmgjochmollaaGreatDoor

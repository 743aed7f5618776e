/- Contracts of lex's readers of words and signs. Conditions: the scan's block, a place within the source, a source of at most 4000 bytes; what the library's variables hold (Amb). -/
import Derived.Test.YtnhmgjochmollaaGreatDoorLexI
import Derived.Laws.ResultCell
namespace Go.Proofs.YtnhmgjochmollaaGreatDoor
open Go.RowKit
set_option linter.unusedSimpArgs false
set_option linter.unusedVariables false

theorem bcell {W w1 : World} (hb : Below W.heap.size W w1) : (∀ b o, b < W.heap.size → w1.cell? ⟨b, o, none⟩ = W.cell? ⟨b, o, none⟩) ∧ (∀ b o, b < W.heap.size → w1.frozen? ⟨b, o, none⟩ = W.frozen? ⟨b, o, none⟩) :=
  ⟨fun b o h => hb.cell (p := ⟨b, o, none⟩) h, fun b o h => hb.frozen (p := ⟨b, o, none⟩) h⟩
/-- A token as the machine has it; v: its bytes. -/
def tokVal (t : Tok) (v : Value) : Value := .agg #[.int .i64 t.kind, .int .i64 t.at_, .int .i64 t.size, .string ⟨t.text.toArray⟩, .int .i64 t.n, v]

/-- A block of six cells, cell by cell. -/
theorem cells6 {w : World} {b : Nat} {c0 c1 c2 c3 c4 c5 : Value} {t : TypeId} (h : w.heap[b]? = some (.cells #[c0, c1, c2, c3, c4, c5] t (0, 0))) :
    w.cell? ⟨b, 0, none⟩ = some c0 ∧ w.cell? ⟨b, 1, none⟩ = some c1 ∧ w.cell? ⟨b, 2, none⟩ = some c2 ∧ w.cell? ⟨b, 3, none⟩ = some c3 ∧ w.cell? ⟨b, 4, none⟩ = some c4 ∧ w.cell? ⟨b, 5, none⟩ = some c5 ∧ ∀ i, w.frozen? ⟨b, i, none⟩ = false :=
  ⟨(cell_of_row w b 0 _ _ _ h).trans rfl, (cell_of_row w b 1 _ _ _ h).trans rfl, (cell_of_row w b 2 _ _ _ h).trans rfl, (cell_of_row w b 3 _ _ _ h).trans rfl, (cell_of_row w b 4 _ _ _ h).trans rfl, (cell_of_row w b 5 _ _ _ h).trans rfl, fun i => by simp [World.frozen?, h]⟩
theorem heap_two (w : World) (o1 o2 : Obj) : ((w.alloc o1).alloc o2).heap[w.heap.size + 1]? = some o2 := by
  have h := heap_alloc_new (w.alloc o1) o2
  rwa [show (w.alloc o1).heap.size = w.heap.size + 1 by simp] at h
theorem heap_one (w : World) (o1 o2 : Obj) : ((w.alloc o1).alloc o2).heap[w.heap.size]? = some o1 := by
  rw [Below.heap_alloc _ _ _ (by simp)]
  exact heap_alloc_new w o1
theorem heap_set1 {w : World} {b : Nat} {c : Array Value} {t : TypeId} (h : w.heap[b]? = some (.cells c t (0, 0))) (i : Nat) (v : Value) : (w.setCell ⟨b, i, none⟩ v).heap[b]? = some (.cells (c.setIfInBounds i v) t (0, 0)) := by
  simp [World.setCell, h, Array.getElem?_modify]
def set6 (W : World) (b : Nat) (c0 c1 c2 c3 c4 c5 : Value) : World := (((((W.setCell ⟨b, 0, none⟩ c0).setCell ⟨b, 1, none⟩ c1).setCell ⟨b, 2, none⟩ c2).setCell ⟨b, 3, none⟩ c3).setCell ⟨b, 4, none⟩ c4).setCell ⟨b, 5, none⟩ c5
theorem set6_block {W : World} {b : Nat} {z0 z1 z2 z3 z4 z5 : Value} {t : TypeId} (h : W.heap[b]? = some (.cells #[z0, z1, z2, z3, z4, z5] t (0, 0))) (c0 c1 c2 c3 c4 c5 : Value) : (set6 W b c0 c1 c2 c3 c4 c5).heap[b]? = some (.cells #[c0, c1, c2, c3, c4, c5] t (0, 0)) :=
  heap_set1 (heap_set1 (heap_set1 (heap_set1 (heap_set1 (heap_set1 h 0 c0) 1 c1) 2 c2) 3 c3) 4 c4) 5 c5
theorem set6_below {B : Nat} {w W : World} (h : Below B w W) {b : Nat} (hb : B ≤ b) (c0 c1 c2 c3 c4 c5 : Value) : Below B w (set6 W b c0 c1 c2 c3 c4 c5) :=
  (((((h.setCell (p := ⟨b, 0, none⟩) hb c0).setCell (p := ⟨b, 1, none⟩) hb c1).setCell (p := ⟨b, 2, none⟩) hb c2).setCell (p := ⟨b, 3, none⟩) hb c3).setCell (p := ⟨b, 4, none⟩) hb c4).setCell (p := ⟨b, 5, none⟩) hb c5
theorem set6_far {W : World} {b g : Nat} (h : g ≠ b) (c0 c1 c2 c3 c4 c5 : Value) : (set6 W b c0 c1 c2 c3 c4 c5).heap[g]? = W.heap[g]? := by
  unfold set6
  rw [Below.heap_setCell _ _ _ _ h, Below.heap_setCell _ _ _ _ h, Below.heap_setCell _ _ _ _ h, Below.heap_setCell _ _ _ _ h, Below.heap_setCell _ _ _ _ h, Below.heap_setCell _ _ _ _ h]
theorem set6_grown {w W : World} {row : Option Nat} (h : w.grownBy W row) {b : Nat} (hb : w.heap.size ≤ b) (c0 c1 c2 c3 c4 c5 : Value) : w.grownBy (set6 W b c0 c1 c2 c3 c4 c5) row :=
  have k := set6_below (Below.refl b W) (Nat.le_refl b) c0 c1 c2 c3 c4 c5
  ⟨k.os.trans h.os, k.tape.trans h.tape, k.output.trans h.output, Nat.le_trans h.size k.size, fun i hi hr => (k.block i (Nat.lt_of_lt_of_le hi hb)).trans (h.block i hi hr)⟩
theorem tok_info : (Tryz.prog.info? 33).map (fun i => (i.zero, i.size, i.bytes)) = some (some (.agg #[.int .i64 0, .int .i64 0, .int .i64 0, .string ⟨#[]⟩, .int .i64 0, .slice none 0 0]), 6, 72) := by kernel_rfl
theorem tok_result {fn : Func} {p : Tmp} (hr : fn.results = #[.cell p 33]) {tmps : Array Value} {W : World} {b : Nat} {c0 c1 c2 c3 c4 c5 : Value} (hp : tmps.getD p undef = .pointer (some ⟨b, 0, none⟩))
    (h : W.heap[b]? = some (.cells #[c0, c1, c2, c3, c4, c5] 33 (0, 0))) : (results fn tmps).run Tryz.prog W = .ok (.agg #[c0, c1, c2, c3, c4, c5]) W := by
  obtain ⟨h0, h1, h2, h3, h4, h5, _⟩ := cells6 h
  rw [Array.getD_eq_getD_getElem?] at hp
  simp [results, hr, hp, go_sem, h0, h1, h2, h3, h4, h5]

set_option maxHeartbeats 400000 in
theorem word_calls (g a : Nat) (s : ByteArray) (e p : Int) (w : World) (hS : ScanAt w g s e p) (hA : Amb w) (hs : s.size ≤ 4000) (h1 : a < s.size) :
    Calls Tryz.prog 62 #[.pointer (some ⟨g, 0, none⟩), .int .i64 a] w fun e' w' => e' = .returned (.agg #[.int .i64 (if isKey ((s.data.toList.drop a).take (runLen (s.data.toList.drop a))) then 2 else 1), .int .i64 a, .int .i64 (runLen (s.data.toList.drop a)), .string ⟨((s.data.toList.drop a).take (runLen (s.data.toList.drop a))).toArray⟩, .int .i64 0, .slice none 0 0]) ∧ Below w.heap.size w w' := by
  have hc := hS.c0
  have hg := hS.lt
  have A := Lib.hid hA
  clear hA hS
  obtain ⟨x, hx⟩ : ∃ x : ByteArray, x = s.extract a (a + runLen (s.data.toList.drop a)) := ⟨_, rfl⟩
  have hxl : x.data.toList = (s.data.toList.drop a).take (runLen (s.data.toList.drop a)) := by rw [hx, Lib.extract_data]; congr 1; omega
  have hxz : x.size = runLen (s.data.toList.drop a) := by
    have := congrArg List.length hxl
    rw [List.length_take, Nat.min_eq_left (runLen_le _)] at this
    simpa using this
  rw [← hxl, ← hxz]
  have HX := Lib.hid hx
  clear hx hxl hxz
  cases hk : isKey x.data.toList
  · have K := Lib.hid hk
    clear hk
    go_enter Tryz.func62, Tryz.ntmps62
    go_wp2_with fail
    refine (run_calls g s a _ ?_ (by omega) hs).mono ?_
    · exact (((Below.refl _ _).alloc (Nat.le_refl _) _).cell hg).trans hc
    rintro e' w1 ⟨rfl, rfl⟩
    rw [← HX.out]
    go_wp2_with fail
    refine (key_calls _ _ ?_).mono ?_
    · exact (A.out.below (((Below.refl _ _).alloc (Nat.le_refl _) _).alloc (by simp) _)).sp
    rintro e' w2 ⟨rfl, hb⟩
    rw [K.out]
    have hk0 := (hb.block w.heap.size (by simp; omega)).trans (heap_one _ _ _)
    have hk1 := (hb.block (w.heap.size + 1) (by simp)).trans (heap_two _ _ _)
    obtain ⟨a0, a1, a2, a3, a4, a5, af⟩ := cells6 hk0
    obtain ⟨b0, b1, b2, b3, b4, b5, bf⟩ := cells6 hk1
    have hz : w.heap.size + 1 < w2.heap.size := by have := hb.size; simp at this; omega
    have B := Lib.hid hb
    have HK := Lib.hid hk0
    clear hb hk0 hk1
    go_wp2
    refine bodyPost_ret (v := .agg #[.int .i64 1, .int .i64 a, .int .i64 x.size, .string x, .int .i64 0, .slice none 0 0]) (tok_result rfl rfl ?_) rfl ⟨rfl, ?_⟩
    · exact set6_block HK.out _ _ _ _ _ _
    · exact set6_below ((((Below.refl _ _).alloc (Nat.le_refl _) _).alloc (by simp) _).trans (B.out.mono (by simp; omega))) (Nat.le_refl _) _ _ _ _ _ _
  · have K := Lib.hid hk
    clear hk
    go_enter Tryz.func62, Tryz.ntmps62
    go_wp2_with fail
    refine (run_calls g s a _ ?_ (by omega) hs).mono ?_
    · exact (((Below.refl _ _).alloc (Nat.le_refl _) _).cell hg).trans hc
    rintro e' w1 ⟨rfl, rfl⟩
    rw [← HX.out]
    go_wp2_with fail
    refine (key_calls _ _ ?_).mono ?_
    · exact (A.out.below (((Below.refl _ _).alloc (Nat.le_refl _) _).alloc (by simp) _)).sp
    rintro e' w2 ⟨rfl, hb⟩
    rw [K.out]
    have hk0 := (hb.block w.heap.size (by simp; omega)).trans (heap_one _ _ _)
    have hk1 := (hb.block (w.heap.size + 1) (by simp)).trans (heap_two _ _ _)
    obtain ⟨a0, a1, a2, a3, a4, a5, af⟩ := cells6 hk0
    obtain ⟨b0, b1, b2, b3, b4, b5, bf⟩ := cells6 hk1
    have hz : w.heap.size + 1 < w2.heap.size := by have := hb.size; simp at this; omega
    have B := Lib.hid hb
    have HK := Lib.hid hk0
    clear hb hk0 hk1
    go_wp2
    refine bodyPost_ret (v := .agg #[.int .i64 2, .int .i64 a, .int .i64 x.size, .string x, .int .i64 0, .slice none 0 0]) (tok_result rfl rfl ?_) rfl ⟨rfl, ?_⟩
    · exact set6_block ((Below.heap_setCell _ ⟨w.heap.size + 1, 0, none⟩ (.int .i64 2) w.heap.size (by simp)).trans HK.out) _ _ _ _ _ _
    · exact set6_below (((((Below.refl _ _).alloc (Nat.le_refl _) _).alloc (by simp) _).trans (B.out.mono (by simp; omega))).setCell (by simp) _) (Nat.le_refl _) _ _ _ _ _ _

theorem signLen_le (l : List UInt8) : signLen l ≤ l.length := by
  unfold signLen
  cases h : signList.find? fun x => x.isPrefixOf l with
  | none => simp
  | some x =>
    have := List.find?_some h
    simpa using (List.isPrefixOf_iff_prefix.1 this).length_le
theorem grown_of {w w' : World} (h : Below w.heap.size w w') (row : Option Nat) : w.grownBy w' row := ⟨h.os, h.tape, h.output, h.size, fun k hk _ => h.block k hk⟩
theorem ScanAt.below {w w' : World} {g : Nat} {s : ByteArray} {e p : Int} (h : ScanAt w g s e p) (hb : Below w.heap.size w w') : ScanAt w' g s e p := (hb.block g h.lt).trans h

set_option maxHeartbeats 400000 in
theorem sign_ok (g a : Nat) (s : ByteArray) (e p : Int) (w : World) (hS : ScanAt w g s e p) (hA : Amb w) (hs : s.size ≤ 4000) (h1 : a < s.size) (hn : signLen (s.data.toList.drop a) ≠ 0) :
    Calls Tryz.prog 66 #[.pointer (some ⟨g, 0, none⟩), .int .i64 a] w fun e' w' => e' = .returned (.agg #[.int .i64 6, .int .i64 a, .int .i64 (signLen (s.data.toList.drop a)), .string ⟨((s.data.toList.drop a).take (signLen (s.data.toList.drop a))).toArray⟩, .int .i64 0, .slice none 0 0]) ∧ Below w.heap.size w w' := by
  have hc := hS.c0
  have hg := hS.lt
  have A := Lib.hid hA
  clear hA hS
  obtain ⟨n, hn'⟩ : ∃ n, n = signLen (s.data.toList.drop a) := ⟨_, rfl⟩
  have hle : a + n ≤ s.size := by
    have := signLen_le (s.data.toList.drop a)
    rw [hn']
    have e : (s.data.toList.drop a).length = s.size - a := by simp
    omega
  rw [← hn'] at hn ⊢
  have hx : s.extract a (a + n) = ⟨((s.data.toList.drop a).take n).toArray⟩ := by rw [extract_mk]; congr 3; omega
  have hb0 : ((n : Int) == 0) = false := beq_eq_false_iff_ne.2 (by omega)
  have HN := Lib.hid hn'
  have HX := Lib.hid hx
  clear hn hn' hx
  go_enter Tryz.func66, Tryz.ntmps66
  go_wp2_with fail
  refine (rest_calls g s a _ ?_ (by omega) (by omega)).mono ?_
  · exact (((Below.refl _ _).alloc (Nat.le_refl _) _).cell hg).trans hc
  rintro e' w1 ⟨rfl, rfl⟩
  rw [show (a : Int).toNat = a from rfl]
  go_wp2_with fail
  refine (sign_calls _ _ ?_).mono ?_
  · exact (A.out.below ((Below.refl _ _).alloc (Nat.le_refl _) _)).sp
  rintro e' w2 ⟨rfl, hb⟩
  rw [Lib.extract_to_end, ← HN.out]
  have hk0 := (hb.block w.heap.size (by simp)).trans (heap_alloc_new w _)
  obtain ⟨a0, a1, a2, a3, a4, a5, af⟩ := cells6 hk0
  have hc2 : w2.cell? ⟨g, 0, none⟩ = some (.string s) := (hb.cell (p := ⟨g, 0, none⟩) (by simp; omega)).trans ((((Below.refl _ _).alloc (Nat.le_refl _) _).cell hg).trans hc)
  have hz : w.heap.size < w2.heap.size := by have := hb.size; simp at this; omega
  have B := Lib.hid hb
  have HK := Lib.hid hk0
  clear hb hk0
  go_wp2
  refine bodyPost_ret (v := .agg #[.int .i64 6, .int .i64 a, .int .i64 n, .string (s.extract a (a + n)), .int .i64 0, .slice none 0 0]) (tok_result rfl rfl ?_) rfl ⟨by rw [HX.out], ?_⟩
  · exact set6_block HK.out _ _ _ _ _ _
  · exact set6_below (((Below.refl _ _).alloc (Nat.le_refl _) _).trans (B.out.mono (by simp))) (Nat.le_refl _) _ _ _ _ _ _

set_option maxHeartbeats 400000 in
theorem sign_bad (g a : Nat) (s : ByteArray) (p : Int) (w : World) (hS : ScanAt w g s 0 p) (hA : Amb w) (hs : s.size ≤ 4000) (h1 : a < s.size) (hn : signLen (s.data.toList.drop a) = 0) :
    Calls Tryz.prog 66 #[.pointer (some ⟨g, 0, none⟩), .int .i64 a] w fun e' w' => (∃ k n z : Int, ∃ x, e' = .returned (.agg #[.int .i64 k, .int .i64 a, .int .i64 z, .string x, .int .i64 n, .slice none 0 0])) ∧ ScanAt w' g s 10 a ∧ w.grownBy w' (some g) := by
  have hc := hS.c0
  have hg := hS.lt
  have A := Lib.hid hA
  have S := Lib.hid hS
  clear hA hS
  have HN := Lib.hid hn
  clear hn
  go_enter Tryz.func66, Tryz.ntmps66
  go_wp2_with fail
  refine (rest_calls g s a _ ?_ (by omega) (by omega)).mono ?_
  · exact (((Below.refl _ _).alloc (Nat.le_refl _) _).cell hg).trans hc
  rintro e' w1 ⟨rfl, rfl⟩
  rw [show (a : Int).toNat = a from rfl]
  go_wp2_with fail
  refine (sign_calls _ _ ?_).mono ?_
  · exact (A.out.below ((Below.refl _ _).alloc (Nat.le_refl _) _)).sp
  rintro e' w2 ⟨rfl, hb⟩
  rw [Lib.extract_to_end, HN.out]
  have hk0 := (hb.block w.heap.size (by simp)).trans (heap_alloc_new w _)
  have hS2 : ScanAt w2 g s 0 p := (S.out.below ((Below.refl _ _).alloc (Nat.le_refl _) _)).below hb
  have B := Lib.hid hb
  have HK := Lib.hid hk0
  have S2 := Lib.hid hS2
  clear hb hk0 hS2 hc
  go_wp2_with fail
  refine (fails_first g s 0 p 10 a _ S2.out rfl).mono ?_
  rintro e' w3 ⟨rfl, hS3, hg3⟩
  have hk3 := (hg3.block w.heap.size (Nat.lt_of_lt_of_le (by simp) B.out.size) (by simp; omega)).trans HK.out
  obtain ⟨a0, a1, a2, a3, a4, a5, af⟩ := cells6 hk3
  have hc3 := hS3.c0
  have S3 := Lib.hid hS3
  have G3 := Lib.hid hg3
  have HK3 := Lib.hid hk3
  clear hS3 hg3 hk3
  go_wp2
  refine bodyPost_ret (v := .agg #[.int .i64 6, .int .i64 a, .int .i64 0, .string ByteArray.empty, .int .i64 0, .slice none 0 0]) (tok_result rfl rfl ?_) rfl ⟨⟨_, _, _, _, rfl⟩, ?_, ?_⟩
  · exact set6_block HK3.out _ _ _ _ _ _
  · exact (set6_far (by omega) _ _ _ _ _ _).trans S3.out
  · exact set6_grown (((World.grownBy_alloc w _ _).trans (grown_of B.out _)).trans G3.out) (Nat.le_refl _) _ _ _ _ _ _
end Go.Proofs.YtnhmgjochmollaaGreatDoor

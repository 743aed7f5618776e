/- Contracts of the law's scans, fails and awake. Conditions: what the library's variables hold (Amb); the list is read. -/
import Derived.Test.YtnhmgjochmollaaGreatDoorLexR
namespace Go.Proofs.YtnhmgjochmollaaGreatDoor
open Go.RowKit Go.Proofs.YtnhmgjochmollaaGreatDoorW.PrintWords
set_option linter.unusedSimpArgs false
set_option linter.unusedVariables false

theorem scanS_facts (n f : Nat) (r : List UInt8) (acc : List Tok) : (∀ p, scanS n f r acc = .error p → p.1 ≠ 0) ∧ (∀ ts, scanS n f r acc = .ok ts → ts.length ≤ acc.length + r.length) := by
  induction f generalizing r acc with
  | zero => exact ⟨fun p h => by simp [scanS] at h, fun ts h => by simp only [scanS, Except.ok.injEq] at h; rw [← h]; omega⟩
  | succ f ih =>
    cases r with
    | nil => exact ⟨fun p h => by simp [scanS] at h, fun ts h => by simp only [scanS, Except.ok.injEq] at h; rw [← h]; omega⟩
    | cons c l =>
      cases hr : readS n (c :: l) with
      | error q =>
        rw [scanS_err hr]
        exact ⟨fun p h => by injection h with h; rw [← h]; exact readS_err hr, fun ts h => by cases h⟩
      | ok t =>
        obtain ⟨z, hz, h1, h2⟩ := readS_size hr
        obtain ⟨⟨b, r'⟩, hk⟩ : ∃ K, skipS (l.length + 2) ((c :: l).drop z) = K := ⟨_, rfl⟩
        cases b
        · rw [scanS_gone hr hz r' hk]
          exact ⟨fun p h => by injection h with h; rw [← h]; simp, fun ts h => by cases h⟩
        · rw [scanS_ok hr hz r' hk]
          have hs := (skipS_suffix (l.length + 2) ((c :: l).drop z)).length_le
          rw [hk] at hs
          simp at hs
          refine ⟨(ih r' _).1, fun ts h => ?_⟩
          have := (ih r' _).2 ts h
          simp at this ⊢
          omega
theorem scanOf_err {l : List UInt8} {p : Int × Int} (h : scanOf l = .error p) : p.1 ≠ 0 := by
  unfold scanOf at h
  split at h
  · injection h with h; rw [← h]; simp
  · split at h
    · injection h with h; rw [← h]; simp
    · exact (scanS_facts _ _ _ _).1 p h
theorem scanOf_len {l : List UInt8} {ts : List Tok} (h : scanOf l = .ok ts) : ts.length ≤ l.length ∧ l.length ≤ 4000 := by
  unfold scanOf at h
  split at h
  · cases h
  · split at h
    · cases h
    · rename_i hk
      have := (scanS_facts _ _ _ _).2 ts h
      have hs := (skipS_suffix (l.length + 1) l).length_le
      rw [hk] at hs
      simp at this hs
      omega

/-- Whether a source's tokens are these. -/
def scansS (l : List UInt8) (us : List Tok) : Bool := match scanOf l with
  | .ok ts => ts == us
  | .error _ => false
set_option maxHeartbeats 400000 in
theorem scans_calls (s : ByteArray) (us : List Tok) (A : Option Addr) (c : Nat) (w : World) (hA : Amb w) (hU : Tk w A us) :
    Calls Tryz.prog 15 #[.string s, .slice A us.length c] w fun e w' => e = .returned (.bool (scansS s.data.toList us)) ∧ Below w.heap.size w w' := by
  have A0 := Lib.hid hA
  have U := Lib.hid hU
  clear hA hU
  obtain ⟨r, hr⟩ : ∃ r, r = scanOf s.data.toList := ⟨_, rfl⟩
  unfold scansS
  rw [← hr]
  have R := Lib.hid hr
  clear hr
  cases r with
  | error p =>
    have hp : (p.1 == 0) = false := beq_eq_false_iff_ne.2 (scanOf_err R.out.symm)
    go_enter Tryz.func15, Tryz.ntmps15
    go_wp2_with fail
    refine (scan_calls s _ A0.out).mono ?_
    rintro e w1 ⟨hb, hk⟩
    rw [← R.out] at hk
    obtain rfl := hk
    have B := Lib.hid hb
    clear hb
    go_wp2_with fail
    go_ret
    exact ⟨rfl, B.out.alloc B.out.size _⟩
  | ok ts =>
    have hl := scanOf_len R.out.symm
    go_enter Tryz.func15, Tryz.ntmps15
    go_wp2_with fail
    refine (scan_calls s _ A0.out).mono ?_
    rintro e w1 ⟨hb, hk⟩
    rw [← R.out] at hk
    obtain ⟨v, rfl, hT⟩ := hk
    obtain ⟨vA, vc, rfl, hK⟩ := hT.reads
    have B := Lib.hid hb
    have K := Lib.hid hK
    clear hb hT hK
    go_wp2_with fail
    refine (sameTokens_calls ts us vA A vc c _ (K.out.below ((Below.refl _ _).alloc (Nat.le_refl _) _)) ((U.out.below B.out).below ((Below.refl _ _).alloc (Nat.le_refl _) _)) (by omega)).mono ?_
    rintro e w2 ⟨rfl, hb2⟩
    have B2 := Lib.hid hb2
    clear hb2
    go_wp2_with fail
    go_ret
    exact ⟨rfl, (B.out.alloc B.out.size _).trans (B2.out.mono (by have := B.out.size; simp; omega))⟩

theorem fails_calls (s : ByteArray) (e a : Int) (w : World) (hA : Amb w) (hs : scanOf s.data.toList = .error (e, a)) :
    Calls Tryz.prog 28 #[.string s, .int .i64 e, .int .i64 a] w fun e' w' => e' = .returned (.bool true) ∧ Below w.heap.size w w' := by
  have A0 := Lib.hid hA
  have R := Lib.hid hs
  clear hA hs
  go_enter Tryz.func28, Tryz.ntmps28
  go_wp2_with fail
  refine (scan_calls s _ A0.out).mono ?_
  rintro e' w1 ⟨hb, hk⟩
  rw [R.out] at hk
  obtain rfl := hk
  have B := Lib.hid hb
  clear hb
  go_wp2_with fail
  go_ret
  exact ⟨rfl, B.out.alloc B.out.size _⟩

theorem len6 {α : Type} (f : α → List Value) (hf : ∀ x, (f x).length = 6) (l : List α) : (l.flatMap f).length = l.length * 6 := by
  induction l with
  | nil => rfl
  | cons x l ih => rw [List.flatMap_cons, List.length_append, ih, hf, List.length_cons]; omega
theorem flat6 {α : Type} (f : α → List Value) (hf : ∀ x, (f x).length = 6) (l : List α) (j : Nat) (x : α) (hj : l[j]? = some x) (i : Nat) (hi : i < 6) : (l.flatMap f)[j * 6 + i]? = (f x)[i]? := by
  induction l generalizing j with
  | nil => simp at hj
  | cons y l ih =>
    cases j with
    | zero =>
      simp at hj
      subst hj
      rw [List.flatMap_cons, List.getElem?_append_left (by rw [hf]; omega)]
      simp
    | succ j =>
      simp at hj
      rw [List.flatMap_cons, List.getElem?_append_right (by rw [hf]; omega), hf, show (j + 1) * 6 + i - 6 = j * 6 + i by omega]
      exact ih j hj
/-- A list of tokens that was built in one block: each with its bytes' slice. -/
theorem tk_built {w : World} {b : Nat} (l : List (Tok × Option Addr × Nat)) (hb : w.heap[b]? = some (.cells (l.flatMap fun x => tokCells x.1 x.2.1 x.2.2).toArray 33 (0, 0)))
    (hl : l.length ≤ 4000) (h : ∀ x ∈ l, x.1.bytes.length ≤ x.2.2 ∧ byteK.C w x.2.1 x.1.bytes.length x.1.bytes) : Tk w (some ⟨b, 0, none⟩) (l.map (·.1)) := by
  refine ⟨⟨by simp, by simp; omega, fun _ => ⟨_, rfl, fun j p hj => ?_⟩⟩, fun _ => ⟨b, rfl⟩⟩
  rw [List.getElem?_map, Option.map_eq_some_iff] at hj
  obtain ⟨x, hx, rfl⟩ := hj
  refine ⟨tokCells x.1 x.2.1 x.2.2, rfl, tok_K.2 ⟨x.2.1, x.2.2, rfl, h x (List.mem_of_getElem? hx)⟩, fun i u hu => ?_⟩
  rw [Addr.add_mid, tok_sz, Nat.zero_add, cell_of_row w b _ _ _ _ hb]
  have hi : i < 6 := (List.getElem?_eq_some_iff.1 hu).1
  have := flat6 (fun x : Tok × Option Addr × Nat => tokCells x.1 x.2.1 x.2.2) (fun _ => rfl) l j x hx i hi
  rw [List.getElem?_toArray, this]
  exact hu
theorem byte_none (w : World) : byteK.C w none 0 [] := ⟨rfl, by omega, fun h => absurd h (by omega)⟩

/-- A list that was built of tokens without bytes. -/
theorem tk_plain {w : World} {b : Nat} (ts : List Tok) (hb : w.heap[b]? = some (.cells (ts.flatMap fun t => tokCells t none 0).toArray 33 (0, 0))) (hl : ts.length ≤ 4000) (h : ∀ t ∈ ts, t.bytes = []) : Tk w (some ⟨b, 0, none⟩) ts := by
  have hm : (ts.map fun t => ((t, none, 0) : Tok × Option Addr × Nat)).map (·.1) = ts := by rw [List.map_map]; exact List.map_id _
  have := tk_built (w := w) (b := b) (ts.map fun t => (t, none, 0)) (by rw [List.flatMap_map]; exact hb) (by simpa using hl) (fun x hx => by
    obtain ⟨t, ht, rfl⟩ := List.mem_map.1 hx
    simp only
    rw [h t ht]
    exact ⟨Nat.le_refl _, byte_none w⟩)
  rwa [hm] at this
theorem all_plain {ts : List Tok} (h : ts.all (fun t => t.bytes.isEmpty) = true) : ∀ t ∈ ts, t.bytes = [] := fun t ht => by simpa using List.all_eq_true.1 h t ht
theorem scans_true {l : List UInt8} {us : List Tok} (h : scanOf l = .ok us) : scansS l us = true := by
  unfold scansS
  rw [h]
  simp

theorem ex_1 : scanOf [105, 110, 116, 32, 120, 49, 61, 48, 120, 49, 70, 59] = .ok [⟨2, 0, 3, [105, 110, 116], 0, []⟩, ⟨1, 4, 2, [120, 49], 0, []⟩, ⟨6, 6, 1, [61], 0, []⟩, ⟨3, 7, 4, [], 31, []⟩, ⟨6, 11, 1, [59], 0, []⟩] := by kernel_rfl
theorem ex_2 : scanOf [39, 97, 98, 39] = .error (10, 0) := by kernel_rfl

set_option maxHeartbeats 400000 in
theorem awake_calls (w : World) (hA : Amb w) :
    Calls Tryz.prog 9 #[] w fun e' w' => e' = .returned (.bool true) ∧ Below w.heap.size w w' := by
  have A0 := Lib.hid hA
  clear hA
  go_enter Tryz.func9, Tryz.ntmps9
  go_wp2_with fail
  refine (of_calls _ _ _ _ _ _).mono ?_
  rintro e w1 ⟨rfl, hb1⟩
  have B1 := Lib.hid hb1
  clear hb1
  go_wp2_with fail
  refine (of_calls _ _ _ _ _ _).mono ?_
  rintro e w2 ⟨rfl, hb1⟩
  have B2 := Lib.hid (B1.out.trans (hb1.mono B1.out.size))
  clear hb1 B1
  go_wp2_with fail
  refine (of_calls _ _ _ _ _ _).mono ?_
  rintro e w3 ⟨rfl, hb1⟩
  have B3 := Lib.hid (B2.out.trans (hb1.mono B2.out.size))
  clear hb1 B2
  go_wp2_with fail
  refine (of_calls _ _ _ _ _ _).mono ?_
  rintro e w4 ⟨rfl, hb1⟩
  have B4 := Lib.hid (B3.out.trans (hb1.mono B3.out.size))
  clear hb1 B3
  go_wp2_with fail
  refine (of_calls _ _ _ _ _ _).mono ?_
  rintro e w5 ⟨rfl, hb1⟩
  have B5 := Lib.hid (B4.out.trans (hb1.mono B4.out.size))
  clear hb1 B4
  go_wp2_with fail
  refine (scans_calls ⟨#[105, 110, 116, 32, 120, 49, 61, 48, 120, 49, 70, 59]⟩ [⟨2, 0, 3, [105, 110, 116], 0, []⟩, ⟨1, 4, 2, [120, 49], 0, []⟩, ⟨6, 6, 1, [61], 0, []⟩, ⟨3, 7, 4, [], 31, []⟩, ⟨6, 11, 1, [59], 0, []⟩] (some ⟨w5.heap.size, 0, none⟩) 5 _ ((A0.out.below B5.out).below ((Below.refl _ _).alloc (Nat.le_refl _) _))
    (tk_plain _ (heap_alloc_new w5 _) (by decide) (all_plain rfl))).mono ?_
  rintro e w6 ⟨rfl, hb⟩
  rw [scans_true ex_1]
  have B6 := Lib.hid ((B5.out.alloc B5.out.size _).trans (hb.mono (by have := B5.out.size; simp; omega)))
  clear hb B5
  go_wp2_with fail
  refine (fails_calls _ _ _ _ (A0.out.below B6.out) ex_2).mono ?_
  rintro e w7 ⟨rfl, hb⟩
  have B7 := Lib.hid (B6.out.trans (hb.mono B6.out.size))
  clear hb B6
  go_wp2
  go_ret
  exact ⟨rfl, B7.out⟩
end Go.Proofs.YtnhmgjochmollaaGreatDoor

/- Contract of lex.Scan. Conditions: what the library's variables hold (Amb). -/
import Derived.Test.YtnhmgjochmollaaGreatDoorLexO
namespace Go.Proofs.YtnhmgjochmollaaGreatDoor
open Go.RowKit Go.Proofs.YtnhmgjochmollaaGreatDoorW.PrintWords
set_option linter.unusedSimpArgs false
set_option linter.unusedVariables false

theorem fault_block {w : World} {b : Nat} {z0 z1 : Value} {t : TypeId} (h : w.heap[b]? = some (.cells #[z0, z1] t (0, 0))) (c0 c1 : Value) : ((w.setCell ⟨b, 0, none⟩ c0).setCell ⟨b, 1, none⟩ c1).heap[b]? = some (.cells #[c0, c1] t (0, 0)) := heap_set1 (heap_set1 h 0 c0) 1 c1

set_option maxHeartbeats 1000000 in
set_option maxRecDepth 20000 in
theorem scan_long (s : ByteArray) (w : World) (hs : 4000 < s.size) :
    Calls Tryz.prog 10 #[.string s] w (ScanPost w (.error (3, 4000))) := by
  go_enter Tryz.func10, Tryz.ntmps10
  go_wp2
  refine bodyPost_ret (v := .tuple #[.slice none 0 0, .agg #[.int .i64 3, .int .i64 4000]]) (scan_result rfl rfl rfl ?_ rfl rfl) rfl ⟨?_, rfl⟩
  · exact heap_alloc_new w _
  · exact (Below.refl _ _).alloc (Nat.le_refl _) _

theorem tok_apart {w : World} {base : Nat} {v : Value} {ts : List Tok} (h : Toks w base v ts) (k : Nat) (hk : ∃ cells, w.heap[k]? = some (.cells cells 5 (0, 0))) : some k ≠ v.ownBlock := by
  obtain ⟨_, inner, ho, _⟩ := h
  obtain ⟨cells, hc⟩ := hk
  intro e
  obtain ⟨c2, h2⟩ := own_typed ho k e.symm
  rw [hc] at h2
  injection h2 with h2
  injection h2 with _ h2
  exact absurd h2 (by decide)
theorem tok_rows {w : World} {base : Nat} {v : Value} {ts : List Tok} (h : Toks w base v ts) (k : Nat) (hk : v.ownBlock = some k) : base ≤ k ∧ k < w.heap.size := by
  obtain ⟨_, inner, ho, _⟩ := h
  exact ⟨own_base ho k hk, own_lt ho k hk⟩

/-- How a step of the loop goes on. -/
theorem scanS_err {n f : Nat} {c : UInt8} {l : List UInt8} {acc : List Tok} {p : Int × Int} (h : readS n (c :: l) = .error p) : scanS n (f + 1) (c :: l) acc = .error p := by
  rw [scanS, h]
theorem scanS_ok {n f z : Nat} {c : UInt8} {l : List UInt8} {acc : List Tok} {t : Tok} (h : readS n (c :: l) = .ok t) (hz : t.size = z) (r : List UInt8) (hk : skipS (l.length + 2) ((c :: l).drop z) = (true, r)) : scanS n (f + 1) (c :: l) acc = scanS n f r (acc ++ [t]) := by
  rw [scanS, h]
  simp only [hz, List.length_cons, Int.toNat_natCast]
  rw [show l.length + 1 + 1 = l.length + 2 from rfl, hk]
theorem scanS_gone {n f z : Nat} {c : UInt8} {l : List UInt8} {acc : List Tok} {t : Tok} (h : readS n (c :: l) = .ok t) (hz : t.size = z) (r : List UInt8) (hk : skipS (l.length + 2) ((c :: l).drop z) = (false, r)) : scanS n (f + 1) (c :: l) acc = .error (4, n - r.length) := by
  rw [scanS, h]
  simp only [hz, List.length_cons, Int.toNat_natCast]
  rw [show l.length + 1 + 1 = l.length + 2 from rfl, hk]

theorem scanOf_true {l r : List UInt8} (h : l.length ≤ 4000) (hk : skipS (l.length + 1) l = (true, r)) : scanOf l = scanS l.length (l.length + 1) r [] := by
  unfold scanOf
  rw [if_neg (by omega), hk]
theorem scanOf_false {l r : List UInt8} (h : l.length ≤ 4000) (hk : skipS (l.length + 1) l = (false, r)) : scanOf l = .error (4, l.length - r.length) := by
  unfold scanOf
  rw [if_neg (by omega), hk]

set_option maxHeartbeats 1000000 in
set_option maxRecDepth 20000 in
theorem scan_short (s : ByteArray) (w : World) (hA : Amb w) (hs : s.size ≤ 4000) :
    Calls Tryz.prog 10 #[.string s] w (ScanPost w (scanOf s.data.toList)) := by
  have A := Lib.hid hA
  have hlo := hA.lo
  clear hA
  obtain ⟨R, hR⟩ : ∃ R, R = scanOf s.data.toList := ⟨_, rfl⟩
  rw [← hR]
  have HR := Lib.hid hR
  clear hR
  obtain ⟨K, hK⟩ : ∃ K, K = skipS (s.size + 1) s.data.toList := ⟨_, rfl⟩
  have HK := Lib.hid hK
  clear hK
  have hgl : gN ≤ w.heap.size + 1 := by omega
  go_enter Tryz.func10, Tryz.ntmps10
  go_wp2_with fail
  refine (skip_calls (w.heap.size + 1) 0 (s.size + 1) s 0 _ ?_ ?_ hs (Nat.zero_le _) (by omega)).mono ?_
  · exact heap_two _ _ _
  · exact A.out.below (((Below.refl _ _).alloc (Nat.le_refl _) _).alloc (by simp) _)
  rintro e' w1 hsk
  rw [List.drop_zero, ← HK.out] at hsk
  obtain ⟨kb, kr⟩ := K
  obtain ⟨rfl, hsk⟩ := hsk
  have hsuf : kr <:+ s.data.toList := by
    have := skipS_suffix (s.size + 1) s.data.toList
    rwa [← HK.out] at this
  have hkl : kr.length ≤ s.size := by simpa using hsuf.length_le
  have hkd : s.data.toList.drop (s.size - kr.length) = kr := by
    have := List.suffix_iff_eq_drop.1 hsuf
    simpa using this.symm
  have hI : ∃ e p, SInv s w.heap.size w e p [] (.slice none 0 0) w1 ∧ (e = 0 → p = 0 ∧ ∃ f, kr.length < f ∧ R = scanS s.size f kr []) ∧ (e ≠ 0 → R = .error (e, p)) := by
    have h0 : SInv s w.heap.size w 0 0 [] (.slice none 0 0) ((w.alloc (.cells #[.int .i64 0, .int .i64 0] 27)).alloc (.cells #[.string s, .int .i64 0, .int .i64 0] 63)) :=
      ⟨((Below.refl _ _).alloc (Nat.le_refl _) _).alloc (by simp) _, heap_one _ _ _, heap_two _ _ _, fun _ => Kd.R_nil _ _ _ _ _, by simp⟩
    have hl : s.data.toList.length = s.size := by simp
    cases kb
    · obtain ⟨h1, h2⟩ := hsk
      refine ⟨4, _, (h0.failed h1 h2 (by decide)).1, fun h => absurd h (by decide), fun _ => ?_⟩
      rw [HR.out, scanOf_false (by rw [hl]; exact hs) (by rw [hl]; exact HK.out.symm), hl]
      exact congrArg (fun x => (Except.error (4, x) : Except (Int × Int) (List Tok))) (show (s.size : Int) - kr.length = (s.size - kr.length : Nat) by omega)
    · have hsk : w1 = _ := hsk
      subst hsk
      exact ⟨0, 0, h0, fun _ => ⟨rfl, s.size + 1, by omega, by rw [HR.out, scanOf_true (by rw [hl]; exact hs) (by rw [hl]; exact HK.out.symm), hl]⟩, fun h => absurd rfl h⟩
  obtain ⟨k0, hk0⟩ : ∃ k0, k0 = s.size - kr.length := ⟨_, rfl⟩
  have hk0s : k0 ≤ s.size := by omega
  rw [← hk0] at hkd ⊢
  have HI := Lib.hid hI
  have KD := Lib.hid hkd
  clear hI hsk hkd hsuf hk0 HK
  go_wp2_with fail
  go_loopg [5, 6] (s.size + 2) (fun gk v t wr => ∃ k : Nat, ∃ ts e p, k ≤ s.size ∧ (e = 0 → s.size - k < gk) ∧ t = .int .i64 k ∧ ts.length ≤ k ∧ SInv s w.heap.size w e p ts v wr ∧ Hid ((e = 0 → p = 0 ∧ ∃ f, s.size - k < f ∧ R = scanS s.size f (s.data.toList.drop k) ts) ∧ (e ≠ 0 → R = .error (e, p))))
  case atStart =>
    obtain ⟨e, p, h1, h2, h3⟩ := HI.out
    refine ⟨k0, [], e, p, hk0s, fun _ => by omega, rfl, by simp, h1, fun h => ?_, h3⟩
    obtain ⟨h4, f, h5, h6⟩ := h2 h
    exact ⟨h4, f, by have := congrArg List.length KD.out; simp at this; omega, by rw [KD.out]; exact h6⟩
  case round =>
    obtain ⟨k, ts, e, p, hk, hgk, rfl, htl, hI, H⟩ := hrel
    have hc0 := hI.scan.c0
    have hc1 := hI.scan.c1
    have hc2 := hI.scan.c2
    obtain ⟨a0, a1, af⟩ := cells2 hI.k0
    have hsz := hI.size
    have I := Lib.hid hI
    clear hI HI KD
    by_cases he : e = 0
    · subst he
      have HG := Lib.hid (hgk rfl)
      clear hgk
      by_cases hlt : k < s.size
      · have hd : s.data.toList.drop k = s[k] :: s.data.toList.drop (k + 1) := List.drop_eq_getElem_cons (by simpa using hlt)
        have D := Lib.hid hd
        clear hd
        have hA1 := A.out.below I.out.below
        have A1 := Lib.hid hA1
        clear hA1
        go_wp2_with fail
        refine (reads_calls (w.heap.size + 1) k s p _ I.out.scan A1.out hs hlt hgl).mono ?_
        rintro e' w1 ⟨F, rfl, rfl, hF1, hF2⟩
        have F2 := Lib.hid hF2
        clear hF2
        go_wp2_with fail
        refine F2.out.mono ?_
        rintro e' w2 hrp
        rw [D.out] at hrp
        obtain ⟨r, hr⟩ : ∃ r, r = readS s.size (s[k] :: s.data.toList.drop (k + 1)) := ⟨_, rfl⟩
        rw [← hr] at hrp
        obtain ⟨f, hf, hRf⟩ := (H.out.1 trivial).2
        obtain ⟨f, rfl⟩ : ∃ f', f = f' + 1 := ⟨f - 1, by omega⟩
        rw [D.out] at hRf
        have hp0 := (H.out.1 trivial).1
        subst hp0
        have RD := Lib.hid hr.symm
        have RF := Lib.hid hRf
        have HF := Lib.hid hf
        clear hr hRf hf H F2 hc0 hc1 hc2 a0 a1 af D
        cases r with
        | error q =>
          obtain ⟨⟨kk, aa, zz, nn, xx, AA, ln, cp, rfl⟩, hS2, hg2⟩ := hrp
          have hq : q.1 ≠ 0 := readS_err RD.out
          obtain ⟨hI2, inner, hown⟩ := I.out.failed hS2 hg2 hq
          obtain ⟨vA, vc, rfl⟩ := own_slice hown
          have hsz2 := hI2.size
          have I2 := Lib.hid hI2
          have OWN := Lib.hid hown
          have hR : R = .error q := RF.out.trans (scanS_err RD.out)
          have HB := Lib.hid hR
          have he0 : (q.1 == 0) = false := beq_eq_false_iff_ne.2 hq
          have HQ := Lib.hid hq
          clear hI2 hown hS2 hg2 I RF RD hR hq
          go_wp2_with (at_builtin; refine print_append_cells (W := w2.alloc (.cells #[.int .i64 kk, .int .i64 aa, .int .i64 zz, .string xx, .int .i64 nn, .slice AA ln cp] 33)) (w.heap.size + 2) rfl _ _ 24 33 _ 6 72 rfl ?_ tok_info rfl (by decide) (by decide) _ ts.length inner [.int .i64 kk, .int .i64 aa, .int .i64 zz, .string xx, .int .i64 nn, .slice AA ln cp] ?_ ?_ ?_ ?_ (OWN.out.alloc _) (Below.refl _ _) ?_ ?_ ?_)
          case refine_1 => kernel_rfl
          case refine_2 => first | (go_simp; done) | (go_simp; rfl)
          case refine_3 => first | (go_simp; done) | (go_simp; rfl)
          case refine_4 => rfl
          case refine_5 =>
            intro u hu
            simp only [List.mem_cons, List.not_mem_nil, or_false] at hu
            rcases hu with rfl | rfl | rfl | rfl | rfl | rfl <;> rfl
          case refine_6 => simp; omega
          case refine_7 => omega
          intro v1 w1 ho1 hb1 hg1 hat1
          obtain ⟨A1', c1', rfl⟩ := own_slice ho1
          have hI3 := (I2.out.step ((Below.refl _ _).alloc (Nat.le_refl _) _)).pushed (ts1 := ts) (v1 := .slice A1' (ts.length + 1) c1') hg1 (own_base OWN.out) (fun e => absurd e HQ.out)
          have hc1 := hI3.scan.c1
          have I3 := Lib.hid hI3
          clear hI3 ho1 hb1 hg1 hat1 I2 OWN
          go_wp2
          go_roundg 0
          case rel => exact ⟨k, ts, q.1, q.2, hk, fun e => absurd e HQ.out, rfl, htl, I3.out, ⟨fun e => absurd e HQ.out, fun _ => HB.out⟩⟩
          case measure => have := HG.out; omega
        | ok t =>
          obtain ⟨⟨v2, rfl, hown2⟩, hb2⟩ := hrp
          obtain ⟨z, hz, hz1, hz2⟩ := readS_size RD.out
          obtain ⟨kd, pa, sz, tx, nn, bs⟩ := t
          simp only at hz hown2
          subst hz
          obtain ⟨vA2, vc2, rfl⟩ := own_slice hown2
          obtain ⟨vA, vc, rfl⟩ := Kd.R_slice (I.out.toks rfl)
          unfold tokVal
          have hsz2 := hb2.size
          have hIW := I.out.step (hb2.alloc (Nat.le_trans (Nat.le_refl _) hsz2) (.cells #[.int .i64 kd, .int .i64 pa, .int .i64 z, .string ⟨tx.toArray⟩, .int .i64 nn, .slice vA2 bs.length vc2] 33))
          have hmade := tok_made (t := ⟨kd, pa, z, tx, nn, bs⟩) ((own_weaken hown2 hsz).alloc (.cells #[.int .i64 kd, .int .i64 pa, .int .i64 z, .string ⟨tx.toArray⟩, .int .i64 nn, .slice vA2 bs.length vc2] 33))
          have hlt7 : ∀ j, (Value.slice vA ts.length vc).ownBlock = some j → j < w2.heap.size := fun j hj => Nat.lt_of_lt_of_le (tok_rows (I.out.toks rfl) j hj).2 hsz2
          have hzl : (s.data.toList.drop (k + 1)).length = s.size - (k + 1) := by simp
          have IW := Lib.hid hIW
          have MADE := Lib.hid hmade
          have LT7 := Lib.hid hlt7
          have ZL := Lib.hid hzl
          have hA2 := A1.out.below hb2
          have A2 := Lib.hid hA2
          clear hown2 hb2 hIW hmade hlt7 hA2 I A1 hzl
          go_wp2_with (at_builtin; refine Kd.R_append tokK (W := w2.alloc (.cells #[.int .i64 kd, .int .i64 pa, .int .i64 z, .string ⟨tx.toArray⟩, .int .i64 nn, .slice vA2 bs.length vc2] 33)) (w.heap.size + 2) rfl _ _ 24 33 _ 72 rfl ?_ tok_info rfl (by decide) (by decide) _ ts ⟨kd, pa, z, tx, nn, bs⟩ _ (fun _ => True) _ ?_ ?_ MADE.out (fun k hk => ⟨trivial, tok_apart (IW.out.toks rfl) k hk⟩) (fun _ _ => trivial) (IW.out.toks rfl) (Below.refl _ _) ?_ ?_ ?_)
          case refine_1 => kernel_rfl
          case refine_2 => first | (go_simp; done) | (go_simp; rfl)
          case refine_3 => first | (go_simp; done) | (go_simp; rfl)
          case refine_4 => simp; omega
          case refine_5 => omega
          intro v1 w1 hT1 hb1 hg1 hat1
          obtain ⟨A1', c1', rfl⟩ := Kd.R_slice hT1
          have hI3 := IW.out.pushed hg1 (fun j hj => (tok_rows (IW.out.toks rfl) j hj).1) (fun _ => hT1)
          have hk7 := (hg1.block w2.heap.size (by simp) (fun e => by have := LT7.out _ e.symm; omega)).trans (heap_alloc_new w2 _)
          have hA3 := (A2.out.below ((Below.refl _ _).alloc (Nat.le_refl _) _)).grown hg1 (fun j hj => by have := (tok_rows (IW.out.toks rfl) j hj).1; omega)
          have A3 := Lib.hid hA3
          have hz3 : k + z ≤ s.size := by have := ZL.out; omega
          obtain ⟨d0, d1, d2, d3, d4, d5, df⟩ := cells6 hk7
          have hc1 := hI3.scan.c1
          have I3 := Lib.hid hI3
          clear hI3 hT1 hb1 hg1 hat1 hk7 IW MADE LT7 hA3 A2
          go_wp2_with fail
          rw [show (k : Int) + z = ((k + z : Nat) : Int) from (Int.natCast_add k z).symm]
          refine (skip_calls (w.heap.size + 1) (k + z) ((s.data.toList.drop (k + 1)).length + 2) s 0 _ I3.out.scan A3.out hs hz3 (by have := ZL.out; omega)).mono ?_
          rintro e' w3 hsk
          have hdz : s.data.toList.drop (k + z) = (s[k] :: s.data.toList.drop (k + 1)).drop z := by
            rw [show s[k] :: s.data.toList.drop (k + 1) = s.data.toList.drop k from (List.drop_eq_getElem_cons (by simpa using hlt)).symm, List.drop_drop]
          rw [hdz] at hsk
          obtain ⟨⟨kb, kr⟩, hK⟩ : ∃ K, K = skipS ((s.data.toList.drop (k + 1)).length + 2) ((s[k] :: s.data.toList.drop (k + 1)).drop z) := ⟨_, rfl⟩
          rw [← hK] at hsk
          have hsuf : kr <:+ s.data.toList.drop (k + z) := by
            have := skipS_suffix ((s.data.toList.drop (k + 1)).length + 2) ((s[k] :: s.data.toList.drop (k + 1)).drop z)
            rw [← hK, ← hdz] at this
            exact this
          have hkl2 : kr.length ≤ s.size - (k + z) := by simpa using hsuf.length_le
          have hkd : s.data.toList.drop (s.size - kr.length) = kr := by
            have := List.suffix_iff_eq_drop.1 (hsuf.trans (List.drop_suffix _ _))
            simpa using this.symm
          obtain ⟨rfl, hsk⟩ := hsk
          cases kb
          · obtain ⟨h1, h2⟩ := hsk
            have hI4 := (I3.out.failed h1 h2 (by decide)).1
            have hR : R = .error (4, ((s.size - kr.length : Nat) : Int)) := by
              rw [RF.out, scanS_gone RD.out rfl kr hK.symm]
              exact congrArg (fun x => (Except.error (4, x) : Except (Int × Int) (List Tok))) (by omega)
            have I4 := Lib.hid hI4
            have HB := Lib.hid hR
            clear hI4 hR h1 h2 hdz hK hsuf hkd RF RD I3
            go_wp2
            go_roundg 0
            case rel => exact ⟨s.size - kr.length, ts ++ [⟨kd, pa, z, tx, nn, bs⟩], 4, _, by omega, fun e => absurd e (by decide), rfl, by simp; omega, (by have := I4.out; rwa [List.length_append, List.length_singleton] at this), ⟨fun e => absurd e (by decide), fun _ => HB.out⟩⟩
            case measure => have := HG.out; omega
          · have hsk : w3 = w1 := hsk
            subst hsk
            have hR : R = scanS s.size f (s.data.toList.drop (s.size - kr.length)) (ts ++ [⟨kd, pa, z, tx, nn, bs⟩]) := by
              rw [RF.out, scanS_ok RD.out rfl kr hK.symm, hkd]
            have HB := Lib.hid hR
            clear hR hdz hK hsuf hkd RF RD
            go_wp2
            go_roundg (s.size - k)
            case rel => exact ⟨s.size - kr.length, ts ++ [⟨kd, pa, z, tx, nn, bs⟩], 0, 0, by omega, fun _ => by omega, rfl, by simp; omega, (by have := I3.out; rwa [List.length_append, List.length_singleton] at this), ⟨fun _ => ⟨rfl, f, by have := HF.out; omega, HB.out⟩, fun e => absurd rfl e⟩⟩
            case measure => have := HG.out; omega
      · have hk' : k = s.size := by omega
        have hR : R = .ok ts := by
          obtain ⟨_, f, hf, hR⟩ := H.out.1 rfl
          rw [hR, hk', show s.data.toList.drop s.size = [] by simp]
          cases f <;> rfl
        have hp : p = 0 := (H.out.1 rfl).1
        subst hp
        have HB := Lib.hid hR
        clear hR hk'
        go_wp2_with fail
        go_region_law (fail)
        all_goals
          go_wp2
          have hR := HB.out
          subst hR
          refine bodyPost_ret (v := .tuple #[u5, .agg #[.int .i64 0, .int .i64 0]]) (scan_result rfl rfl rfl ?_ rfl rfl) rfl ⟨?_, u5, rfl, ?_⟩
          · exact drew_block (fault_block I.out.k0 _ _)
          · exact ((I.out.below.setCell (p := ⟨w.heap.size, 0, none⟩) (Nat.le_refl _) _).setCell (p := ⟨w.heap.size, 1, none⟩) (Nat.le_refl _) _).drew
          · have hT := I.out.toks rfl
            have h2 : ∀ k, k ≠ w.heap.size → ((wr.setCell ⟨w.heap.size, 0, none⟩ (.int .i64 0)).setCell ⟨w.heap.size, 1, none⟩ (.int .i64 0)).drew.heap[k]? = wr.heap[k]? := fun k hk => (Below.heap_setCell _ _ _ _ hk).trans (Below.heap_setCell _ _ _ _ hk)
            have hT2 : Toks _ (w.heap.size + 2) u5 ts := Kd.R_mono (Kd.R_step (Kd.R_bound hT) (fun k hk _ => h2 k (fun e => absurd (show w.heap.size + 2 ≤ w.heap.size from e ▸ hk.2.1) (by omega)))) (fun _ _ => trivial)
            exact hT2.lower (Nat.le_add_right _ _)
    · have he0 : (e == 0) = false := beq_eq_false_iff_ne.2 he
      have he1 : (e != 0) = true := bne_iff_ne.2 he
      have hR := H.out.2 he
      have HB := Lib.hid hR
      clear hR
      by_cases hlt : k < s.size
      · go_wp2_with fail
        go_region_law (fail)
        all_goals
          go_wp2
          have hR := HB.out
          subst hR
          refine bodyPost_ret (v := .tuple #[.slice none 0 0, .agg #[.int .i64 e, .int .i64 p]]) (scan_result rfl rfl rfl ?_ rfl rfl) rfl ⟨?_, rfl⟩
          · exact drew_block (fault_block I.out.k0 _ _)
          · exact ((I.out.below.setCell (p := ⟨w.heap.size, 0, none⟩) (Nat.le_refl _) _).setCell (p := ⟨w.heap.size, 1, none⟩) (Nat.le_refl _) _).drew
      · go_wp2_with fail
        go_region_law (fail)
        all_goals
          go_wp2
          have hR := HB.out
          subst hR
          refine bodyPost_ret (v := .tuple #[.slice none 0 0, .agg #[.int .i64 e, .int .i64 p]]) (scan_result rfl rfl rfl ?_ rfl rfl) rfl ⟨?_, rfl⟩
          · exact drew_block (fault_block I.out.k0 _ _)
          · exact ((I.out.below.setCell (p := ⟨w.heap.size, 0, none⟩) (Nat.le_refl _) _).setCell (p := ⟨w.heap.size, 1, none⟩) (Nat.le_refl _) _).drew

theorem scan_calls (s : ByteArray) (w : World) (hA : Amb w) : Calls Tryz.prog 10 #[.string s] w (ScanPost w (scanOf s.data.toList)) := by
  by_cases hs : s.size ≤ 4000
  · exact scan_short s w hA hs
  · have : scanOf s.data.toList = .error (3, 4000) := by
      unfold scanOf
      rw [if_pos (by simp; omega)]
    rw [this]
    exact scan_long s w (by omega)
end Go.Proofs.YtnhmgjochmollaaGreatDoor

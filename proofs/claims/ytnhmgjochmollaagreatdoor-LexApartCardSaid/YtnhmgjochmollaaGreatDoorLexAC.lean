/- Contract of LexApart: it answers true. Conditions: what the library's variables hold (Amb). -/
import Derived.Test.YtnhmgjochmollaaGreatDoorLexAB
import Derived.IntWalk
namespace Go.Proofs.YtnhmgjochmollaaGreatDoor
open Go.RowKit Go.Proofs.YtnhmgjochmollaaGreatDoorW.PrintWords
set_option linter.unusedSimpArgs false
set_option linter.unusedVariables false

set_option maxHeartbeats 1000000 in
set_option maxRecDepth 20000 in
theorem lexApart_long (s : ByteArray) (w : World) (hA : Amb w) (h : 4000 < s.size) :
    Calls Tryz.prog 4 #[.string s] w fun e' w' => e' = .returned (.bool true) ∧ Below w.heap.size w w' := by
  have A0 := Lib.hid hA
  clear hA
  go_enter Tryz.func4, Tryz.ntmps4
  go_wp2_with fail
  refine (lexKnown_calls _ A0.out).mono ?_
  rintro e w1 ⟨rfl, hb⟩
  have B := Lib.hid hb
  clear hb
  go_wp2
  go_ret
  exact ⟨rfl, B.out⟩

set_option maxHeartbeats 1000000 in
set_option maxRecDepth 20000 in
theorem lexApart_bad (s : ByteArray) (w : World) (hA : Amb w) (h1 : s.size ≤ 4000) (p : Int × Int) (hs : scanOf s.data.toList = .error p) :
    Calls Tryz.prog 4 #[.string s] w fun e' w' => e' = .returned (.bool true) ∧ Below w.heap.size w w' := by
  have A0 := Lib.hid hA
  have R := Lib.hid hs
  obtain ⟨hp0, hp1⟩ := scanOf_place (by simpa using h1) hs
  have hp : (p.1 != 0) = true := bne_iff_ne.2 (scanOf_err hs)
  have hp1 : p.2 < s.size := by simpa using hp1
  clear hA hs
  go_enter Tryz.func4, Tryz.ntmps4
  go_wp2_with fail
  refine (lexKnown_calls _ A0.out).mono ?_
  rintro e w1 ⟨rfl, hb⟩
  have B := Lib.hid hb
  clear hb
  go_wp2_with fail
  refine (scan_calls s _ (A0.out.below B.out)).mono ?_
  rintro e w2 ⟨hb, hk⟩
  rw [R.out] at hk
  obtain rfl := hk
  have B2 := Lib.hid (B.out.trans (hb.mono B.out.size))
  clear hb B
  go_wp2
  go_ret
  exact ⟨rfl, B2.out.alloc B2.out.size _⟩

theorem scans_gap (s : ByteArray) (w : World) (hA : Amb w) (h : scanOf s.data.toList = .ok []) :
    Calls Tryz.prog 15 #[.string s, .slice none 0 0] w fun e w' => e = .returned (.bool true) ∧ Below w.heap.size w w' := scans_ok s [] none 0 w hA (tk_nil w) h
theorem scans_one (s : ByteArray) (t : Tok) (A : Option Addr) (c : Nat) (w : World) (hA : Amb w) (hU : Tk w A [t]) (h : scanOf s.data.toList = .ok [t]) :
    Calls Tryz.prog 15 #[.string s, .slice A 1 c] w fun e w' => e = .returned (.bool true) ∧ Below w.heap.size w w' := scans_ok s [t] A c w hA hU h

/-- What holds at the head of the loop. -/
structure ApI (w : World) (tA : Option Addr) (tc : Nat) (ts : List Tok) (wr : World) : Prop where
  below : Below w.heap.size w wr
  toks : Toks wr w.heap.size (.slice tA ts.length tc) ts
theorem ApI.step {w wr w1 : World} {tA : Option Addr} {tc : Nat} {ts : List Tok} (h : ApI w tA tc ts wr) (hb : Below wr.heap.size wr w1) : ApI w tA tc ts w1 := ⟨h.below.trans (hb.mono h.below.size), h.toks.below hb⟩

set_option maxHeartbeats 2000000 in
set_option maxRecDepth 20000 in
theorem lexApart_good (s : ByteArray) (w : World) (hA : Amb w) (h1 : s.size ≤ 4000) (ts : List Tok) (hs : scanOf s.data.toList = .ok ts) :
    Calls Tryz.prog 4 #[.string s] w fun e' w' => e' = .returned (.bool true) ∧ Below w.heap.size w w' := by
  have A0 := Lib.hid hA
  have R := Lib.hid hs
  have htl := (scanOf_len hs).1
  have hsl : s.data.toList.length = s.size := by simp
  have hts : ts.length ≤ 4000 := by omega
  have C := Lib.hid (scanOf_chain hs)
  have AP := Lib.hid (apart_of hs)
  clear hA hs htl hsl
  go_enter Tryz.func4, Tryz.ntmps4
  go_wp2_with fail
  refine (lexKnown_calls _ A0.out).mono ?_
  rintro e w1 ⟨rfl, hb⟩
  have B := Lib.hid hb
  clear hb
  go_wp2_with fail
  refine (scan_calls s _ (A0.out.below B.out)).mono ?_
  rintro e w2 ⟨hb, hk⟩
  rw [R.out] at hk
  obtain ⟨v, rfl, hT⟩ := hk
  have hT' := hT.lower B.out.size
  obtain ⟨tA, tc, rfl⟩ := Kd.R_slice hT'
  have B2 := Lib.hid (B.out.trans (hb.mono B.out.size))
  have K := Lib.hid hT'
  clear hb B hT hT'
  go_wp2_with fail
  go_loopg [6, 7] (ts.length + 1) (fun gk ve vi wr => ∃ k e : Nat, k ≤ ts.length ∧ e ≤ s.size ∧ gk = ts.length + 1 - k ∧ ve = .int .i64 e ∧ vi = .int .i64 k ∧ ApI w tA tc ts wr ∧ Hid (Chain s.size e (ts.drop k) ∧ ApartS s.data.toList e (ts.drop k)))
  case atStart =>
    refine ⟨0, 0, Nat.zero_le _, Nat.zero_le _, rfl, rfl, rfl, ⟨B2.out.alloc B2.out.size _, Toks.below K.out ((Below.refl _ _).alloc (Nat.le_refl _) _)⟩, ?_⟩
    exact ⟨by have := C.out; simpa using this, by have := AP.out; simpa using this⟩
  case round =>
    obtain ⟨k, e, hk, he, rfl, rfl, rfl, hI, H⟩ := hrel
    have I := Lib.hid hI
    clear hI
    by_cases hlt : k < ts.length
    · have hdk := List.drop_eq_getElem_cons hlt
      obtain ⟨hch, hap⟩ := H.out
      rw [hdk] at hch hap
      obtain ⟨a, z, hpa, hsz, hea, hz1, haz, hch2⟩ := hch
      obtain ⟨hg1, hg2, hap2⟩ := hap
      obtain ⟨g1, c1', B1, d1, hv1, hbr, hrg⟩ := toks_elem I.out.toks k hlt
      injection hv1 with hv1 hv2 hv3
      subst hv1
      obtain ⟨t, ht⟩ : ∃ t, t = ts[k] := ⟨_, rfl⟩
      rw [← ht] at hpa hsz hbr hrg hg1 hg2 hap2 hdk
      obtain ⟨kd, pa, sz, tx, nn, bs⟩ := t
      simp only at hpa hsz hbr
      subst hpa hsz
      simp only [Int.toNat_natCast] at hg1 hg2 hap2
      obtain ⟨p0, p1, p2, p3, p4, p5⟩ := range6 hrg
      have G1 := Lib.hid (show scanOf (s.extract e a).data.toList = .ok [] by rw [Lib.extract_data]; exact hg1)
      have G2 := Lib.hid (show scanOf (s.extract a (a + z)).data.toList = .ok [⟨kd, 0, z, tx, nn, bs⟩] by rw [Lib.extract_data, show a + z - a = z by omega]; exact hg2)
      obtain ⟨_, hbl, hbc⟩ := Kd.R_reads' hbr
      have hR0 : ApR wr ⟨kd, a, z, tx, nn, bs⟩ wr.heap.size B1 d1 (wr.alloc (.cells #[.int .i64 kd, .int .i64 a, .int .i64 z, .string ⟨tx.toArray⟩, .int .i64 nn, .slice B1 bs.length d1] 33)) :=
        ⟨heap_alloc_new wr _, (A0.out.below I.out.below).below ((Below.refl _ _).alloc (Nat.le_refl _) _), ⟨hbl, Kd.C_below hbc ((Below.refl _ _).alloc (Nat.le_refl _) _)⟩, (Below.refl _ _).alloc (Nat.le_refl _) _⟩
      have CH := Lib.hid hch2
      have AP2 := Lib.hid hap2
      have R0 := Lib.hid hR0
      clear hg1 hg2 hbr hrg ht hdk H hv2 hv3 hch2 hap2 hbl hbc hR0 AP C K
      go_wp2_with fail
      have hR0 := R0.out
      have hd1 : decide ((a : Int) < (e : Int)) = false := decide_eq_false (by omega)
      have hd1n : decide (a < e) = false := decide_eq_false (by omega)
      have hd2 : decide ((z : Int) < 1) = false := decide_eq_false (by omega)
      have hd3 : decide ((s.size : Int) - a < z) = false := decide_eq_false (by omega)
      have hi1 : (0 : Int) ≤ (e : Int) := by omega
      have hi2 : (e : Int) ≤ (a : Int) := by omega
      have hi3 : (a : Int) ≤ (s.size : Int) := by omega
      have hi4 : (a : Int) + z ≤ (s.size : Int) := by omega
      have hi5 : (a : Int) ≤ (a : Int) + z := by omega
      have hi6 : (0 : Int) ≤ (a : Int) := by omega
      have hw0 : IntKind.i64.wrap ((s.size : Int) - a) = (s.size : Int) - a := IntWalk.i64_in _ (by omega)
      have hw1 : IntKind.i64.wrap ((a : Int) + z) = (a : Int) + z := IntWalk.i64_in _ (by omega)
      have hw3 : ((a : Int) + z).toNat = a + z := by omega
      go_region_held3 (fun w' => w'.cell? ⟨wr.heap.size, 0, none⟩ = some (.int .i64 kd) ∧ w'.cell? ⟨wr.heap.size, 1, none⟩ = some (.int .i64 a) ∧ w'.cell? ⟨wr.heap.size, 2, none⟩ = some (.int .i64 z) ∧ w'.cell? ⟨wr.heap.size, 3, none⟩ = some (.string ⟨tx.toArray⟩) ∧ w'.cell? ⟨wr.heap.size, 4, none⟩ = some (.int .i64 nn) ∧ w'.cell? ⟨wr.heap.size, 5, none⟩ = some (.slice B1 bs.length d1) ∧ ApR wr ⟨kd, a, z, tx, nn, bs⟩ wr.heap.size B1 d1 w')
        (first | (exact ap_six hR0.drew) | (exact ap_six (by (go_split_ands; assumption))) | (exact ap_six (ApR.alloc (by (go_split_ands; assumption)) _)))
        (first
          | (go_at_call 12; refine (at_calls _ _ _ _ _ _ _ _ _ _).mono ?_; rintro e' w' ⟨rfl, hb⟩; go_split_ands; have hR2 : ApR wr ⟨kd, a, z, tx, nn, bs⟩ wr.heap.size B1 d1 w' := ApR.step (by assumption) hb; clear hb)
          | (go_at_call 15; go_split_ands; (with_reducible refine (scans_gap (s.extract e a) _ (ApR.amb (by assumption)) G1.out).mono ?_); rintro e' w' ⟨rfl, hb⟩; have hR2 : ApR wr ⟨kd, a, z, tx, nn, bs⟩ wr.heap.size B1 d1 w' := ApR.step (by assumption) hb; clear hb)
          | (go_at_call 15; go_split_ands; (with_reducible refine (scans_one (s.extract a (a + z)) ⟨kd, 0, z, tx, nn, bs⟩ _ 1 _ (ApR.amb (by assumption)) (tk_one (by assumption) 0) G2.out).mono ?_); rintro e' w' ⟨rfl, hb⟩; have hR2 : ApR wr ⟨kd, a, z, tx, nn, bs⟩ wr.heap.size B1 d1 w' := ApR.step (by assumption) hb; clear hb))
      go_split_ands
      have R7 := Lib.hid (show ApR wr ⟨kd, a, z, tx, nn, bs⟩ wr.heap.size B1 d1 _ by assumption)
      clear hd1 hd1n hd2 hd3 hw0 hw1 hw3
      go_wp2_with fail
      go_roundg (ts.length + 1 - (k + 1))
      case rel =>
        exact ⟨k + 1, a + z, by omega, by omega, rfl, by go_num, by go_num, I.out.step R7.out.below, CH.out, AP2.out⟩
      case measure => omega
    · have hke : k = ts.length := by omega
      have hap := H.out.2
      rw [hke, List.drop_length] at hap
      have G := Lib.hid (show scanOf (s.extract e s.size).data.toList = .ok [] by rw [Lib.extract_to_end]; exact hap)
      clear hap H AP C K
      go_wp2_with fail
      refine (scans_gap (s.extract e s.size) _ (A0.out.below I.out.below) G.out).mono ?_
      rintro e' w' ⟨rfl, hb⟩
      have B9 := Lib.hid (I.out.below.trans (hb.mono I.out.below.size))
      clear hb
      go_wp2
      go_ret
      exact ⟨rfl, B9.out⟩

theorem lexApart_calls (s : ByteArray) (w : World) (hA : Amb w) :
    Calls Tryz.prog 4 #[.string s] w fun e' w' => e' = .returned (.bool true) ∧ Below w.heap.size w w' := by
  by_cases h1 : 4000 < s.size
  · exact lexApart_long s w hA h1
  · cases hs : scanOf s.data.toList with
    | error p => exact lexApart_bad s w hA (by omega) p hs
    | ok ts => exact lexApart_good s w hA (by omega) ts hs
end Go.Proofs.YtnhmgjochmollaaGreatDoor

/- Contract of LexBlanks: it answers true. Conditions: what the library's variables hold (Amb); the list of choices is read. -/
import Derived.Test.YtnhmgjochmollaaGreatDoorLexX
namespace Go.Proofs.YtnhmgjochmollaaGreatDoor
open Go.RowKit Go.Proofs.YtnhmgjochmollaaGreatDoorW.PrintWords
set_option linter.unusedSimpArgs false
set_option linter.unusedVariables false

theorem Toks.tk {w : World} {base n c : Nat} {A : Option Addr} {ts : List Tok} (h : Toks w base (.slice A n c) ts) : Tk w A ts := by
  obtain ⟨A', c', e, h'⟩ := h.reads
  injection e with e1 e2 e3
  subst e1
  exact h'
theorem ba_append (a b : ByteArray) : (a ++ b).data.toList = a.data.toList ++ b.data.toList := by simp
theorem tok_make {w : World} {base : Nat} {ok : Nat → Prop} (t : Tok) {v : Value} (h : byteK.R 5 w base ok v t.bytes) : tokK.M w base ok t [.int .i64 t.kind, .int .i64 t.at_, .int .i64 t.size, .string ⟨t.text.toArray⟩, .int .i64 t.n, v] := tok_M.2 ⟨v, rfl, h⟩
/-- An element of a row of tokens: its cells in line, its bytes in a row of their own. -/
theorem toks_elem {w : World} {base : Nat} {ok : Nat → Prop} {v : Value} {ts : List Tok} (h : tokK.R 33 w base ok v ts) (k : Nat) (hk : k < ts.length) :
    ∃ g c A1 c1, v = .slice (some ⟨g, 0, none⟩) ts.length c ∧ byteK.R 5 w base ok (.slice A1 ts[k].bytes.length c1) ts[k].bytes ∧ w.rangeAt g (k * 6) (tokCells ts[k] A1 c1) := by
  obtain ⟨h0, inner, ho, hr⟩ := h
  obtain ⟨g, cap, hv, _⟩ := ho.form (by omega)
  have hM := hr.2 k ts[k] (List.getElem?_eq_getElem hk)
  obtain ⟨vb, hcs, hR⟩ := tok_M.1 hM
  obtain ⟨A1, c1, rfl⟩ := Kd.R_slice hR
  refine ⟨g, cap, A1, c1, hv, Kd.R_mono hR (fun _ h => h.1), fun j u hj => ?_⟩
  have hj6 : j < 6 := (List.getElem?_eq_some_iff.1 hj).1
  have e : ((inner.drop (k * tokK.sz)).take tokK.sz)[j]? = some u := by rw [hcs]; exact hj
  rw [tok_sz, List.getElem?_take, if_pos hj6, List.getElem?_drop] at e
  have := ho.cells (g := g) (by rw [hv]; rfl) (k * 6 + j) u e
  rw [Addr.add_mid] at this
  simpa using this

/-- What holds at the head of LexBlanks's loop: the wanted tokens so far in a row of their own, from block h on; the six texts in a block; the source's tokens, below block h. -/
structure BInv (B h : Nat) (w : World) (us : List Tok) (v : Value) (ab : Nat) (tv : Value) (ts : List Tok) (wr : World) : Prop where
  below : Below B w wr
  want : Toks wr B v us
  wantb : ∀ j, v.ownBlock = some j → h + 2 ≤ j
  all : wr.heap[ab]? = some (.cells #[.string ⟨#[]⟩, .string ⟨#[32]⟩, .string ⟨#[10]⟩, .string ⟨#[32, 47, 42, 32, 97, 32, 42, 47]⟩, .string ⟨#[9, 47, 47, 32, 98, 10]⟩, .string ⟨#[9, 13]⟩] 9 (0, 0))
  toks : tokK.R 33 wr B (fun k => k < h) tv ts
  size : B ≤ h ∧ h + 2 ≤ wr.heap.size ∧ ab = h + 1
theorem BInv.step {B h : Nat} {w wr W : World} {us ts : List Tok} {v tv : Value} {ab : Nat} (i : BInv B h w us v ab tv ts wr) (hb : Below wr.heap.size wr W) : BInv B h w us v ab tv ts W :=
  ⟨i.below.trans (hb.mono (by have := i.size; omega)), i.want.below hb, i.wantb, (hb.block _ (by have := i.size; omega)).trans i.all, Kd.R_below i.toks hb, by have := i.size; have := hb.size; omega⟩
theorem BInv.pushed {B h : Nat} {w W w1 : World} {us us1 ts : List Tok} {v v1 tv : Value} {ab : Nat} (i : BInv B h w us v ab tv ts W) (ht : Toks w1 B v1 us1) (hg : W.grownBy w1 v.ownBlock) (hat : v1.ownBlock = v.ownBlock ∨ ∃ b, v1.ownBlock = some b ∧ W.heap.size ≤ b) : BInv B h w us1 v1 ab tv ts w1 := by
  have hs := i.size
  refine ⟨i.below.grown hg (by omega) (fun k hk => by have := i.wantb k hk; omega), ht, fun j hj => ?_, ?_, ?_, by have := hg.size; omega⟩
  · rcases hat with hat | ⟨b, hb, hle⟩
    · exact i.wantb j (hat ▸ hj)
    · rw [hb] at hj
      injection hj with hj
      omega
  · exact (hg.block ab (by omega) (fun e => by have := i.wantb ab e.symm; omega)).trans i.all
  · exact Kd.R_step i.toks (fun k hk hlt => hg.block k hlt (fun e => by have := i.wantb k e.symm; omega))

theorem pick_lt (x : Int) : pickN x 6 < 6 := by
  have h1 := Int.tmod_lt_of_pos (Int.tmod x 6 + 6) (show (0 : Int) < 6 by omega)
  unfold pickN
  have : ((6 : Nat) : Int) = 6 := rfl
  rw [this]
  omega
theorem all_at {w : World} {ab : Nat} (h : w.heap[ab]? = some (.cells #[.string ⟨#[]⟩, .string ⟨#[32]⟩, .string ⟨#[10]⟩, .string ⟨#[32, 47, 42, 32, 97, 32, 42, 47]⟩, .string ⟨#[9, 47, 47, 32, 98, 10]⟩, .string ⟨#[9, 13]⟩] 9 (0, 0))) (p : Nat) (hp : p < 6) :
    ∃ X : ByteArray, w.cell? ⟨ab, p, none⟩ = some (.string X) ∧ X.data.toList = allB.getD p [] := by
  have hc := cell_of_row w ab p _ _ _ h
  match p, hp with
  | 0, _ => exact ⟨_, hc.trans rfl, rfl⟩
  | 1, _ => exact ⟨_, hc.trans rfl, rfl⟩
  | 2, _ => exact ⟨_, hc.trans rfl, rfl⟩
  | 3, _ => exact ⟨_, hc.trans rfl, rfl⟩
  | 4, _ => exact ⟨_, hc.trans rfl, rfl⟩
  | 5, _ => exact ⟨_, hc.trans rfl, rfl⟩

set_option maxHeartbeats 1000000 in
set_option maxRecDepth 20000 in
theorem lexBlanks_long (s : ByteArray) (A : Option Addr) (n c : Nat) (w : World) (hA : Amb w) (h : 1000 < s.size ∨ 1000 < n) :
    Calls Tryz.prog 3 #[.string s, .slice A n c] w fun e' w' => e' = .returned (.bool true) ∧ Below w.heap.size w w' := by
  have A0 := Lib.hid hA
  clear hA
  by_cases h1 : 1000 < s.size
  · go_enter Tryz.func3, Tryz.ntmps3
    go_wp2_with fail
    refine (awake_calls _ A0.out).mono ?_
    rintro e w1 ⟨rfl, hb⟩
    have B := Lib.hid hb
    clear hb
    go_wp2
    go_ret
    exact ⟨rfl, B.out⟩
  · have h2 : 1000 < n := by omega
    go_enter Tryz.func3, Tryz.ntmps3
    go_wp2_with fail
    refine (awake_calls _ A0.out).mono ?_
    rintro e w1 ⟨rfl, hb⟩
    have B := Lib.hid hb
    clear hb
    go_wp2
    go_ret
    exact ⟨rfl, B.out⟩

set_option maxHeartbeats 1000000 in
set_option maxRecDepth 20000 in
theorem lexBlanks_bad (s : ByteArray) (A : Option Addr) (n c : Nat) (w : World) (hA : Amb w) (h1 : s.size ≤ 1000) (h2 : n ≤ 1000) (p : Int × Int) (hs : scanOf s.data.toList = .error p) :
    Calls Tryz.prog 3 #[.string s, .slice A n c] w fun e' w' => e' = .returned (.bool true) ∧ Below w.heap.size w w' := by
  have A0 := Lib.hid hA
  have R := Lib.hid hs
  have hp : (p.1 != 0) = true := bne_iff_ne.2 (scanOf_err hs)
  clear hA hs
  go_enter Tryz.func3, Tryz.ntmps3
  go_wp2_with fail
  refine (awake_calls _ A0.out).mono ?_
  rintro e w1 ⟨rfl, hb⟩
  have B := Lib.hid hb
  clear hb
  go_wp2_with fail
  refine (scan_calls s _ (A0.out.below B.out)).mono ?_
  rintro e w2 ⟨hb, hk⟩
  rw [R.out] at hk
  obtain rfl := hk
  have B2 := Lib.hid (B.out.trans (hb.mono B.out.size))
  clear hb B
  go_wp2
  go_ret
  exact ⟨rfl, B2.out.alloc B2.out.size _⟩

set_option maxHeartbeats 2000000 in
set_option maxRecDepth 20000 in
theorem lexBlanks_good (s : ByteArray) (A : Option Addr) (n c : Nat) (xs : List Int) (w : World) (hA : Amb w) (h1 : s.size ≤ 1000) (h2 : n ≤ 1000) (ts : List Tok) (hs : scanOf s.data.toList = .ok ts) (hX : ReadsInt w .i64 A n xs) :
    Calls Tryz.prog 3 #[.string s, .slice A n c] w fun e' w' => e' = .returned (.bool true) ∧ Below w.heap.size w w' := by
  have A0 := Lib.hid hA
  have R := Lib.hid hs
  have X := Lib.hid hX
  have htl := (scanOf_len hs).1
  have hsl : s.data.toList.length = s.size := by simp
  have hts : ts.length ≤ 1000 := by omega
  have C := Lib.hid (scanOf_chain hs)
  clear hA hs hX htl hsl
  go_enter Tryz.func3, Tryz.ntmps3
  go_wp2_with fail
  refine (awake_calls _ A0.out).mono ?_
  rintro e w1 ⟨rfl, hb⟩
  have B := Lib.hid hb
  clear hb
  go_wp2_with fail
  refine (scan_calls s _ (A0.out.below B.out)).mono ?_
  rintro e w2 ⟨hb, hk⟩
  rw [R.out] at hk
  obtain ⟨v, rfl, hT⟩ := hk
  have hT' := hT.lower B.out.size
  obtain ⟨tA, tc, rfl⟩ := Kd.R_slice hT'
  have B2 := Lib.hid (B.out.trans (hb.mono B.out.size))
  have K := Lib.hid hT'
  clear hb B hT hT'
  go_wp2_with fail
  go_loopg [9, 10, 11, 12] (ts.length + 1) (fun gk vw ve vu vi wr => ∃ k e : Nat, ∃ W : ByteArray, ∃ us, k ≤ ts.length ∧ e ≤ s.size ∧ gk = ts.length + 1 - k ∧ vw = .string W ∧ ve = .int .i64 e ∧ vi = .int .i64 k ∧ W.size ≤ e + 8 * k ∧ us.length = k ∧ BInv w.heap.size w2.heap.size w us vu (w2.heap.size + 1) (.slice tA ts.length tc) ts wr ∧
    Hid (Chain s.size e (ts.drop k) ∧ widen s.data.toList xs 0 0 [] [] ts = widen s.data.toList xs k e W.data.toList us (ts.drop k)))
  case atStart =>
    refine ⟨0, 0, ByteArray.empty, [], Nat.zero_le _, Nat.zero_le _, rfl, rfl, rfl, rfl, by simp, rfl, ⟨?_, Kd.R_nil _ _ _ _ _, fun j hj => by simp [Value.ownBlock] at hj, ?_, ?_, ?_⟩, ?_⟩
    · exact (B2.out.alloc B2.out.size _).alloc (by have := B2.out.size; simp; omega) _
    · exact heap_two _ _ _
    · exact Kd.R_below (Kd.R_mono (Kd.R_bound K.out) (fun k hk => hk.2.2.1)) (((Below.refl _ _).alloc (Nat.le_refl _) _).alloc (by simp) _)
    · exact ⟨B2.out.size, by simp, rfl⟩
    · exact ⟨by have := C.out; simpa using this, rfl⟩
  case round =>
    obtain ⟨k, e, W, us, hk, he, rfl, rfl, rfl, rfl, hW, hus, hI, H⟩ := hrel
    obtain ⟨vA, vc, rfl⟩ := Kd.R_slice hI.want
    have I := Lib.hid hI
    have HUS := Lib.hid hus
    clear hI hus
    by_cases hlt : k < ts.length
    · have hdk := List.drop_eq_getElem_cons hlt
      obtain ⟨hch, hwid⟩ := H.out
      rw [hdk] at hch hwid
      obtain ⟨a, z, hpa, hsz, hea, hz1, haz, hch2⟩ := hch
      obtain ⟨g1, c1', B1, d1, hv1, hbr, hrg⟩ := toks_elem I.out.toks k hlt
      injection hv1 with hv1 hv2 hv3
      subst hv1
      obtain ⟨t, ht⟩ : ∃ t, t = ts[k] := ⟨_, rfl⟩
      rw [← ht] at hpa hsz hbr hrg hwid hdk
      obtain ⟨kd, pa, sz, tx, nn, bs⟩ := t
      simp only at hpa hsz hbr
      subst hpa hsz
      obtain ⟨p0, p1, p2, p3, p4, p5⟩ := range6 hrg
      have p2' : wr.cell? ⟨g1, k * 6 + 2, none⟩ = some (.int .i64 z) := p2
      have CH := Lib.hid hch2
      have WID := Lib.hid hwid
      have BR := Lib.hid hbr
      have hxl := X.out.1
      have hkl : ((k : Int) == (ts.length : Int)) = false := beq_eq_false_iff_ne.2 (by omega)
      clear hch2 hwid hbr hrg ht hdk H hv2 hv3
      by_cases hkn : k < n
      · obtain ⟨xk, hxk⟩ : ∃ xk, xk = xs.getD k 0 := ⟨_, rfl⟩
        obtain ⟨pk, hpk⟩ : ∃ pk, pk = pickN xk 6 := ⟨_, rfl⟩
        have hpl : pk < 6 := by rw [hpk]; exact pick_lt _
        obtain ⟨XE, hXE, hXL⟩ := all_at I.out.all pk hpl
        obtain ⟨ad, rfl, hck0⟩ := ReadsInt.at_ (X.out.below (I.out.below.mono (Nat.le_refl _))) (k : Int) (by omega) (by omega)
        have hck : wr.cell? (ad.add k) = some (.int .i64 xk) := by rw [hxk]; exact hck0
        have hex : extra xs k = XE.data.toList := by unfold extra; rw [if_pos (by omega), hXL, hpk, hxk]
        have hXs : XE.size ≤ 8 := by
          have h8 := extra_len xs k
          rw [hex] at h8
          simpa using h8
        have PK := Lib.hid hpk
        have EX := Lib.hid hex
        clear hpk hex hXL hxk hck0
        go_wp2_with fail
        refine (pick_calls _ 6 _ (by omega) (by omega)).mono ?_
        rintro e' w3 ⟨rfl, rfl⟩
        rw [← PK.out]
        have hwl : (W ++ s.extract e a ++ XE : ByteArray).data.toList = W.data.toList ++ (s.data.toList.drop e).take (a - e) ++ extra xs k := by
          rw [EX.out]
          simp
        have hzl : (W ++ s.extract e a ++ XE : ByteArray).size = W.size + (a - e) + XE.size := by
          simp
          omega
        have WL := Lib.hid hwl
        have ZL := Lib.hid hzl
        clear hwl hzl
        obtain ⟨P, hP⟩ : ∃ P : Nat, P = W.size + (a - e) + XE.size := ⟨_, rfl⟩
        have PP := Lib.hid hP
        clear hP
        go_wp2_with fail
        rw [show (W.size : Int) + ((min a s.size - e : Nat) : Int) + XE.size = (P : Int) by have := PP.out; omega]
        refine (at_calls _ _ _ _ _ _ _ _ _ _).mono ?_
        rintro e' w4 ⟨rfl, hb4⟩
        have hI4 := I.out.step hb4
        have hmade := tok_make ⟨kd, P, z, tx, nn, bs⟩ (Kd.R_below BR.out hb4)
        have I4 := Lib.hid hI4
        have MADE := Lib.hid hmade
        have hsz4 : w.heap.size ≤ w4.heap.size := by have := hI4.size; omega
        clear hb4 hI4 hmade I BR
        go_wp2_with (at_builtin; refine Kd.R_append tokK (W := w4) w.heap.size rfl _ _ 24 33 _ 72 rfl ?_ tok_info rfl (by decide) (by decide) _ us ⟨kd, P, z, tx, nn, bs⟩ _ (fun _ => True) _ ?_ ?_ MADE.out (fun j hj => ⟨trivial, fun e => by have := I4.out.wantb j e.symm; have : j < w2.heap.size := hj; omega⟩) (fun _ _ => trivial) I4.out.want (Below.refl _ _) hsz4 ?_ ?_)
        case refine_1 => kernel_rfl
        case refine_2 => first | (go_simp; done) | (go_simp; rfl)
        case refine_3 => first | (go_simp; done) | (go_simp; rfl)
        case refine_4 => have := HUS.out; omega
        intro v1 w5 hT1 hb1 hg1 hat1
        obtain ⟨A1', c1'', rfl⟩ := Kd.R_slice hT1
        have hI5 := I4.out.pushed hT1 hg1 hat1
        have I5 := Lib.hid hI5
        clear hI5 hT1 hb1 hg1 hat1 I4 MADE
        go_wp2
        go_roundg (ts.length + 1 - (k + 1))
        case rel =>
          refine ⟨k + 1, a + z, W ++ s.extract e a ++ XE ++ s.extract a (a + z), us ++ [⟨kd, P, z, tx, nn, bs⟩], by omega, by omega, rfl, ?_, by go_num, by go_num, ?_, ?_, ?_, ⟨CH.out, ?_⟩⟩
          · rfl
          · simp
            omega
          · have := HUS.out
            simp
            omega
          · have := I5.out
            rwa [List.length_append, List.length_singleton] at this
          · have hl : (W.data.toList ++ (s.data.toList.drop e).take (a - e) ++ extra xs k).length = P := by
              rw [← WL.out, PP.out, ← ZL.out]
              rfl
            rw [WID.out, widen]
            simp only [Int.toNat_natCast]
            rw [hl, ba_append, WL.out]
            congr 2
            simp
        case measure => omega
      · have hex : extra xs k = [] := by unfold extra; rw [if_neg (by omega)]
        have EX := Lib.hid hex
        clear hex
        have hwl : (W ++ s.extract e a : ByteArray).data.toList = W.data.toList ++ (s.data.toList.drop e).take (a - e) ++ extra xs k := by
          rw [EX.out]
          simp
        have hzl : (W ++ s.extract e a : ByteArray).size = W.size + (a - e) := by
          simp
          omega
        have WL := Lib.hid hwl
        have ZL := Lib.hid hzl
        clear hwl hzl
        obtain ⟨P, hP⟩ : ∃ P : Nat, P = W.size + (a - e) := ⟨_, rfl⟩
        have PP := Lib.hid hP
        clear hP
        go_wp2_with fail
        rw [show (W.size : Int) + ((min a s.size - e : Nat) : Int) = (P : Int) by have := PP.out; omega]
        refine (at_calls _ _ _ _ _ _ _ _ _ _).mono ?_
        rintro e' w4 ⟨rfl, hb4⟩
        have hI4 := I.out.step hb4
        have hmade := tok_make ⟨kd, P, z, tx, nn, bs⟩ (Kd.R_below BR.out hb4)
        have I4 := Lib.hid hI4
        have MADE := Lib.hid hmade
        have hsz4 : w.heap.size ≤ w4.heap.size := by have := hI4.size; omega
        clear hb4 hI4 hmade I BR
        go_wp2_with (at_builtin; refine Kd.R_append tokK (W := w4) w.heap.size rfl _ _ 24 33 _ 72 rfl ?_ tok_info rfl (by decide) (by decide) _ us ⟨kd, P, z, tx, nn, bs⟩ _ (fun _ => True) _ ?_ ?_ MADE.out (fun j hj => ⟨trivial, fun e => by have := I4.out.wantb j e.symm; have : j < w2.heap.size := hj; omega⟩) (fun _ _ => trivial) I4.out.want (Below.refl _ _) hsz4 ?_ ?_)
        case refine_1 => kernel_rfl
        case refine_2 => first | (go_simp; done) | (go_simp; rfl)
        case refine_3 => first | (go_simp; done) | (go_simp; rfl)
        case refine_4 => have := HUS.out; omega
        intro v1 w5 hT1 hb1 hg1 hat1
        obtain ⟨A1', c1'', rfl⟩ := Kd.R_slice hT1
        have hI5 := I4.out.pushed hT1 hg1 hat1
        have I5 := Lib.hid hI5
        clear hI5 hT1 hb1 hg1 hat1 I4 MADE
        go_wp2
        go_roundg (ts.length + 1 - (k + 1))
        case rel =>
          refine ⟨k + 1, a + z, W ++ s.extract e a ++ s.extract a (a + z), us ++ [⟨kd, P, z, tx, nn, bs⟩], by omega, by omega, rfl, ?_, by go_num, by go_num, ?_, ?_, ?_, ⟨CH.out, ?_⟩⟩
          · rfl
          · simp
            omega
          · have := HUS.out
            simp
            omega
          · have := I5.out
            rwa [List.length_append, List.length_singleton] at this
          · have hl : (W.data.toList ++ (s.data.toList.drop e).take (a - e) ++ extra xs k).length = P := by
              rw [← WL.out, PP.out, ← ZL.out]
              rfl
            rw [WID.out, widen]
            simp only [Int.toNat_natCast]
            rw [hl, ba_append, WL.out]
            congr 2
            simp
        case measure => omega
    · have hke : k = ts.length := by omega
      have hfin : widen s.data.toList xs 0 0 [] [] ts = (W.data.toList ++ s.data.toList.drop e ++ (if e < s.size then [10] else []) ++ extra xs k, us) := by
        rw [H.out.2, hke, List.drop_length]
        simp only [widen, List.append_assoc]
        congr 2
      have FIN := Lib.hid hfin
      have hxl := X.out.1
      have HKE := Lib.hid hke
      clear hfin hke H
      have hkl : ((k : Int) == (ts.length : Int)) = true := by rw [HKE.out]; simp
      by_cases hen : e < s.size
      · by_cases hkn : k < n
        · obtain ⟨xk, hxk⟩ : ∃ xk, xk = xs.getD k 0 := ⟨_, rfl⟩
          obtain ⟨pk, hpk⟩ : ∃ pk, pk = pickN xk 6 := ⟨_, rfl⟩
          have hpl : pk < 6 := by rw [hpk]; exact pick_lt _
          obtain ⟨XE, hXE, hXL⟩ := all_at I.out.all pk hpl
          obtain ⟨ad, rfl, hck0⟩ := ReadsInt.at_ (X.out.below (I.out.below.mono (Nat.le_refl _))) (k : Int) (by omega) (by omega)
          have hck : wr.cell? (ad.add k) = some (.int .i64 xk) := by rw [hxk]; exact hck0
          have hex : extra xs k = XE.data.toList := by unfold extra; rw [if_pos (by omega), hXL, hpk, hxk]
          have hXs : XE.size ≤ 8 := by
            have h8 := extra_len xs k
            rw [hex] at h8
            simpa using h8
          have PK := Lib.hid hpk
          have EX := Lib.hid hex
          clear hpk hex hXL hxk hck0
          have hfd : (W ++ s.extract e s.size ++ ⟨#[10]⟩ ++ XE : ByteArray).data.toList = (widen s.data.toList xs 0 0 [] [] ts).1 := by
            rw [FIN.out, EX.out]
            rw [if_pos hen]
            have ht : List.take (s.size - e) (List.drop e s.data.toList) = List.drop e s.data.toList := List.take_of_length_le (by simp)
            simp [ht]
          have hfl : (widen s.data.toList xs 0 0 [] [] ts).1.length = W.size + (s.size - e) + 1 + XE.size := by
            rw [← hfd]
            simp; omega
          have FD := Lib.hid hfd
          have FL := Lib.hid hfl
          clear hfd hfl
          go_wp2_with fail
          refine (pick_calls _ 6 _ (by omega) (by omega)).mono ?_
          rintro e' w3 ⟨rfl, rfl⟩
          rw [← PK.out]
          go_wp2_with fail
          · go_ret
            exact ⟨rfl, I.out.below⟩
          · have hsc := blanks_law s.data.toList xs ts R.out (by rw [FL.out]; omega)
            have hsnd : (widen s.data.toList xs 0 0 [] [] ts).2 = us := by rw [FIN.out]
            rw [hsnd, ← FD.out] at hsc
            have SC := Lib.hid hsc
            clear hsc hsnd
            refine (scan_calls _ _ (A0.out.below I.out.below)).mono ?_
            rintro e' w4 ⟨hb4, hk4⟩
            rw [SC.out] at hk4
            obtain ⟨v4, rfl, hT4⟩ := hk4
            obtain ⟨mA, mc, rfl, hK4⟩ := hT4.reads
            have B4 := Lib.hid hb4
            have K4 := Lib.hid hK4
            clear hb4 hT4 hK4
            go_wp2_with fail
            refine (sameTokens_calls us us mA vA mc vc _ (K4.out.below ((Below.refl _ _).alloc (Nat.le_refl _) _)) ((I.out.want.tk.below B4.out).below ((Below.refl _ _).alloc (Nat.le_refl _) _)) (by have := HUS.out; omega)).mono ?_
            rintro e' w5 ⟨rfl, hb5⟩
            rw [beq_self_eq_true]
            have B5 := Lib.hid hb5
            clear hb5
            go_wp2
            go_ret
            exact ⟨rfl, (I.out.below.trans (B4.out.mono I.out.below.size)).trans (((Below.refl _ _).alloc (Nat.le_refl _) _).trans (B5.out.mono (by simp)) |>.mono (Nat.le_trans I.out.below.size B4.out.size))⟩
        · have hex : extra xs k = [] := by unfold extra; rw [if_neg (by omega)]
          have EX := Lib.hid hex
          clear hex
          have hfd : (W ++ s.extract e s.size ++ ⟨#[10]⟩ : ByteArray).data.toList = (widen s.data.toList xs 0 0 [] [] ts).1 := by
            rw [FIN.out, EX.out]
            rw [if_pos hen]
            have ht : List.take (s.size - e) (List.drop e s.data.toList) = List.drop e s.data.toList := List.take_of_length_le (by simp)
            simp [ht]
          have hfl : (widen s.data.toList xs 0 0 [] [] ts).1.length = W.size + (s.size - e) + 1 := by
            rw [← hfd]
            simp; omega
          have FD := Lib.hid hfd
          have FL := Lib.hid hfl
          clear hfd hfl
          go_wp2_with fail
          · go_ret
            exact ⟨rfl, I.out.below⟩
          · have hsc := blanks_law s.data.toList xs ts R.out (by rw [FL.out]; omega)
            have hsnd : (widen s.data.toList xs 0 0 [] [] ts).2 = us := by rw [FIN.out]
            rw [hsnd, ← FD.out] at hsc
            have SC := Lib.hid hsc
            clear hsc hsnd
            refine (scan_calls _ _ (A0.out.below I.out.below)).mono ?_
            rintro e' w4 ⟨hb4, hk4⟩
            rw [SC.out] at hk4
            obtain ⟨v4, rfl, hT4⟩ := hk4
            obtain ⟨mA, mc, rfl, hK4⟩ := hT4.reads
            have B4 := Lib.hid hb4
            have K4 := Lib.hid hK4
            clear hb4 hT4 hK4
            go_wp2_with fail
            refine (sameTokens_calls us us mA vA mc vc _ (K4.out.below ((Below.refl _ _).alloc (Nat.le_refl _) _)) ((I.out.want.tk.below B4.out).below ((Below.refl _ _).alloc (Nat.le_refl _) _)) (by have := HUS.out; omega)).mono ?_
            rintro e' w5 ⟨rfl, hb5⟩
            rw [beq_self_eq_true]
            have B5 := Lib.hid hb5
            clear hb5
            go_wp2
            go_ret
            exact ⟨rfl, (I.out.below.trans (B4.out.mono I.out.below.size)).trans (((Below.refl _ _).alloc (Nat.le_refl _) _).trans (B5.out.mono (by simp)) |>.mono (Nat.le_trans I.out.below.size B4.out.size))⟩
      · by_cases hkn : k < n
        · obtain ⟨xk, hxk⟩ : ∃ xk, xk = xs.getD k 0 := ⟨_, rfl⟩
          obtain ⟨pk, hpk⟩ : ∃ pk, pk = pickN xk 6 := ⟨_, rfl⟩
          have hpl : pk < 6 := by rw [hpk]; exact pick_lt _
          obtain ⟨XE, hXE, hXL⟩ := all_at I.out.all pk hpl
          obtain ⟨ad, rfl, hck0⟩ := ReadsInt.at_ (X.out.below (I.out.below.mono (Nat.le_refl _))) (k : Int) (by omega) (by omega)
          have hck : wr.cell? (ad.add k) = some (.int .i64 xk) := by rw [hxk]; exact hck0
          have hex : extra xs k = XE.data.toList := by unfold extra; rw [if_pos (by omega), hXL, hpk, hxk]
          have hXs : XE.size ≤ 8 := by
            have h8 := extra_len xs k
            rw [hex] at h8
            simpa using h8
          have PK := Lib.hid hpk
          have EX := Lib.hid hex
          clear hpk hex hXL hxk hck0
          have hfd : (W ++ s.extract e s.size ++ XE : ByteArray).data.toList = (widen s.data.toList xs 0 0 [] [] ts).1 := by
            rw [FIN.out, EX.out]
            rw [if_neg hen]
            have ht : List.take (s.size - e) (List.drop e s.data.toList) = List.drop e s.data.toList := List.take_of_length_le (by simp)
            simp [ht]
          have hfl : (widen s.data.toList xs 0 0 [] [] ts).1.length = W.size + (s.size - e) + XE.size := by
            rw [← hfd]
            simp; omega
          have FD := Lib.hid hfd
          have FL := Lib.hid hfl
          clear hfd hfl
          go_wp2_with fail
          refine (pick_calls _ 6 _ (by omega) (by omega)).mono ?_
          rintro e' w3 ⟨rfl, rfl⟩
          rw [← PK.out]
          go_wp2_with fail
          · go_ret
            exact ⟨rfl, I.out.below⟩
          · have hsc := blanks_law s.data.toList xs ts R.out (by rw [FL.out]; omega)
            have hsnd : (widen s.data.toList xs 0 0 [] [] ts).2 = us := by rw [FIN.out]
            rw [hsnd, ← FD.out] at hsc
            have SC := Lib.hid hsc
            clear hsc hsnd
            refine (scan_calls _ _ (A0.out.below I.out.below)).mono ?_
            rintro e' w4 ⟨hb4, hk4⟩
            rw [SC.out] at hk4
            obtain ⟨v4, rfl, hT4⟩ := hk4
            obtain ⟨mA, mc, rfl, hK4⟩ := hT4.reads
            have B4 := Lib.hid hb4
            have K4 := Lib.hid hK4
            clear hb4 hT4 hK4
            go_wp2_with fail
            refine (sameTokens_calls us us mA vA mc vc _ (K4.out.below ((Below.refl _ _).alloc (Nat.le_refl _) _)) ((I.out.want.tk.below B4.out).below ((Below.refl _ _).alloc (Nat.le_refl _) _)) (by have := HUS.out; omega)).mono ?_
            rintro e' w5 ⟨rfl, hb5⟩
            rw [beq_self_eq_true]
            have B5 := Lib.hid hb5
            clear hb5
            go_wp2
            go_ret
            exact ⟨rfl, (I.out.below.trans (B4.out.mono I.out.below.size)).trans (((Below.refl _ _).alloc (Nat.le_refl _) _).trans (B5.out.mono (by simp)) |>.mono (Nat.le_trans I.out.below.size B4.out.size))⟩
        · have hex : extra xs k = [] := by unfold extra; rw [if_neg (by omega)]
          have EX := Lib.hid hex
          clear hex
          have hfd : (W ++ s.extract e s.size : ByteArray).data.toList = (widen s.data.toList xs 0 0 [] [] ts).1 := by
            rw [FIN.out, EX.out]
            rw [if_neg hen]
            have ht : List.take (s.size - e) (List.drop e s.data.toList) = List.drop e s.data.toList := List.take_of_length_le (by simp)
            simp [ht]
          have hfl : (widen s.data.toList xs 0 0 [] [] ts).1.length = W.size + (s.size - e) := by
            rw [← hfd]
            simp
          have FD := Lib.hid hfd
          have FL := Lib.hid hfl
          clear hfd hfl
          go_wp2_with fail
          · go_ret
            exact ⟨rfl, I.out.below⟩
          · have hsc := blanks_law s.data.toList xs ts R.out (by rw [FL.out]; omega)
            have hsnd : (widen s.data.toList xs 0 0 [] [] ts).2 = us := by rw [FIN.out]
            rw [hsnd, ← FD.out] at hsc
            have SC := Lib.hid hsc
            clear hsc hsnd
            refine (scan_calls _ _ (A0.out.below I.out.below)).mono ?_
            rintro e' w4 ⟨hb4, hk4⟩
            rw [SC.out] at hk4
            obtain ⟨v4, rfl, hT4⟩ := hk4
            obtain ⟨mA, mc, rfl, hK4⟩ := hT4.reads
            have B4 := Lib.hid hb4
            have K4 := Lib.hid hK4
            clear hb4 hT4 hK4
            go_wp2_with fail
            refine (sameTokens_calls us us mA vA mc vc _ (K4.out.below ((Below.refl _ _).alloc (Nat.le_refl _) _)) ((I.out.want.tk.below B4.out).below ((Below.refl _ _).alloc (Nat.le_refl _) _)) (by have := HUS.out; omega)).mono ?_
            rintro e' w5 ⟨rfl, hb5⟩
            rw [beq_self_eq_true]
            have B5 := Lib.hid hb5
            clear hb5
            go_wp2
            go_ret
            exact ⟨rfl, (I.out.below.trans (B4.out.mono I.out.below.size)).trans (((Below.refl _ _).alloc (Nat.le_refl _) _).trans (B5.out.mono (by simp)) |>.mono (Nat.le_trans I.out.below.size B4.out.size))⟩

theorem lexBlanks_calls (s : ByteArray) (A : Option Addr) (n c : Nat) (xs : List Int) (w : World) (hA : Amb w) (hX : ReadsInt w .i64 A n xs) :
    Calls Tryz.prog 3 #[.string s, .slice A n c] w fun e' w' => e' = .returned (.bool true) ∧ Below w.heap.size w w' := by
  by_cases h1 : 1000 < s.size ∨ 1000 < n
  · exact lexBlanks_long s A n c w hA h1
  · have h1 : s.size ≤ 1000 ∧ n ≤ 1000 := by omega
    cases hs : scanOf s.data.toList with
    | error p => exact lexBlanks_bad s A n c w hA h1.1 h1.2 p hs
    | ok ts => exact lexBlanks_good s A n c xs w hA h1.1 h1.2 ts hs hX
end Go.Proofs.YtnhmgjochmollaaGreatDoor

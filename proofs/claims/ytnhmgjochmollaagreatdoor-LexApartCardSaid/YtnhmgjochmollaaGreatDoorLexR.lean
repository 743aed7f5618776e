/- Contract of the kit's comparison of lists of tokens. Conditions: both are read. -/
import Derived.Test.YtnhmgjochmollaaGreatDoorLexQ
import Derived.Deep.MidRow
import Derived.StillTailTactics
namespace Go.Proofs.YtnhmgjochmollaaGreatDoor
open Go.RowKit Go.Proofs.YtnhmgjochmollaaGreatDoorW.PrintWords
set_option linter.unusedSimpArgs false
set_option linter.unusedVariables false

theorem tok_K {w : World} {t : Tok} {cs : List Value} :
    tokK.K w t cs ↔ ∃ A c, cs = [.int .i64 t.kind, .int .i64 t.at_, .int .i64 t.size, .string ⟨t.text.toArray⟩, .int .i64 t.n, .slice A t.bytes.length c] ∧ t.bytes.length ≤ c ∧ byteK.C w A t.bytes.length t.bytes := by
  constructor
  · rintro ⟨c0, _, rfl, h0, c1, _, rfl, h1, c2, _, rfl, h2, c3, _, rfl, h3, c4, c5, rfl, h4, A, c, rfl, h5⟩
    refine ⟨A, c, ?_, h5⟩
    rw [show c0 = [Value.int .i64 t.kind] from h0, show c1 = [Value.int .i64 t.at_] from h1, show c2 = [Value.int .i64 t.size] from h2, show c3 = [Value.string ⟨t.text.toArray⟩] from h3, show c4 = [Value.int .i64 t.n] from h4]
    rfl
  · rintro ⟨A, c, rfl, h⟩
    exact ⟨[_], _, rfl, rfl, [_], _, rfl, rfl, [_], _, rfl, rfl, [_], _, rfl, rfl, [_], [_], rfl, rfl, A, c, rfl, h⟩
/-- The tokens that a slice holds, as they are read: from block g's head on. -/
def Tk (w : World) (A : Option Addr) (ts : List Tok) : Prop := tokK.C w A ts.length ts ∧ (0 < ts.length → ∃ g, A = some ⟨g, 0, none⟩)
theorem Tk.below {w w1 : World} {A : Option Addr} {ts : List Tok} (h : Tk w A ts) (hb : Below w.heap.size w w1) : Tk w1 A ts := ⟨Kd.C_below h.1 hb, h.2⟩
theorem Toks.reads {w : World} {base : Nat} {v : Value} {ts : List Tok} (h : Toks w base v ts) : ∃ A c, v = .slice A ts.length c ∧ Tk w A ts := by
  obtain ⟨A, c, rfl, _, hC⟩ := Kd.R_reads h
  refine ⟨A, c, rfl, hC, fun hn => ?_⟩
  obtain ⟨inner, ho⟩ := Kd.R_own h
  obtain ⟨g, cap, hv, _⟩ := ho.form hn
  injection hv with hv
  exact ⟨g, hv⟩
/-- An element's cells, in line. -/
def tokCells (t : Tok) (A : Option Addr) (c : Nat) : List Value := [.int .i64 t.kind, .int .i64 t.at_, .int .i64 t.size, .string ⟨t.text.toArray⟩, .int .i64 t.n, .slice A t.bytes.length c]
theorem Tk.get {w : World} {A : Option Addr} {ts : List Tok} (h : Tk w A ts) (k : Nat) (hk : k < ts.length) :
    ∃ g A1 c1, A = some ⟨g, 0, none⟩ ∧ byteK.C w A1 ts[k].bytes.length ts[k].bytes ∧ w.rangeAt g (k * 6) (tokCells ts[k] A1 c1) := by
  obtain ⟨g, rfl⟩ := h.2 (by omega)
  obtain ⟨ad, cs, had, _, hK, hc⟩ := Kd.C_get h.1 ts[k] (k : Int) (by omega) (by omega)
  injection had with had
  subst had
  have e : ts.getD (k : Int).toNat ts[k] = ts[k] := by simp [List.getD_eq_getElem?_getD, List.getElem?_eq_getElem hk]
  rw [e] at hK
  obtain ⟨A1, c1, rfl, _, hb⟩ := tok_K.1 hK
  refine ⟨g, A1, c1, rfl, hb, fun j v hj => ?_⟩
  have := hc j v hj
  rw [Addr.add_mid, tok_sz] at this
  simpa using this
/-- Six cells from a place on, each by itself, in the walk's spelling. -/
theorem range6 {w : World} {g o : Nat} {c0 c1 c2 c3 c4 c5 : Value} (h : w.rangeAt g o [c0, c1, c2, c3, c4, c5]) :
    w.cell? ⟨g, o, none⟩ = some c0 ∧ w.cell? ⟨g, o + 1, none⟩ = some c1 ∧ w.cell? ⟨g, o + 1 + 1, none⟩ = some c2 ∧ w.cell? ⟨g, o + 1 + 1 + 1, none⟩ = some c3 ∧ w.cell? ⟨g, o + 1 + 1 + 1 + 1, none⟩ = some c4 ∧ w.cell? ⟨g, o + 1 + 1 + 1 + 1 + 1, none⟩ = some c5 :=
  ⟨h 0 _ rfl, h 1 _ rfl, h 2 _ rfl, h 3 _ rfl, h 4 _ rfl, h 5 _ rfl⟩

theorem beq_step (ts us : List Tok) (k : Nat) (h1 : k < ts.length) (h2 : k < us.length) : (ts.drop k == us.drop k) = (ts[k] == us[k] && ts.drop (k + 1) == us.drop (k + 1)) := by
  rw [List.drop_eq_getElem_cons h1, List.drop_eq_getElem_cons h2]
  rfl

set_option maxHeartbeats 1000000 in
set_option maxRecDepth 20000 in
theorem sameTokens_calls (ts us : List Tok) (A1 A2 : Option Addr) (c1 c2 : Nat) (w : World) (h1 : Tk w A1 ts) (h2 : Tk w A2 us) (hl : ts.length ≤ 4000) :
    Calls Tryz.prog 13 #[.slice A1 ts.length c1, .slice A2 us.length c2] w fun e w' => e = .returned (.bool (ts == us)) ∧ Below w.heap.size w w' := by
  have H1 := Lib.hid h1
  have H2 := Lib.hid h2
  clear h1 h2
  by_cases hne : ts.length = us.length
  · have hb : ((ts.length : Int) != us.length) = false := by simp [hne]
    have HN := Lib.hid hne
    clear hne
    go_enter Tryz.func13, Tryz.ntmps13
    go_wp2_with fail
    go_loopg [5] (ts.length + 1) (fun gk t wr => ∃ k : Nat, k ≤ ts.length ∧ gk = ts.length + 1 - k ∧ t = .int .i64 k ∧ Below w.heap.size w wr ∧ Hid ((ts == us) = (ts.drop k == us.drop k)))
    case atStart => exact ⟨0, Nat.zero_le _, rfl, rfl, Below.refl _ _, rfl⟩
    case round =>
      obtain ⟨k, hk, rfl, rfl, hbel, H⟩ := hrel
      have B := Lib.hid hbel
      clear hbel
      by_cases hlt : k < ts.length
      · have hlu : k < us.length := by rw [← HN.out]; exact hlt
        obtain ⟨g1, B1, d1, rfl, hB1, hr1⟩ := (H1.out.below B.out).get k hlt
        obtain ⟨g2, B2, d2, rfl, hB2, hr2⟩ := (H2.out.below B.out).get k hlu
        obtain ⟨p0, p1, p2, p3, p4, p5⟩ := range6 hr1
        obtain ⟨q0, q1, q2, q3, q4, q5⟩ := range6 hr2
        have HB1 := Lib.hid hB1
        have HB2 := Lib.hid hB2
        clear hB1 hB2 hr1 hr2
        cases ht : ts[k] == us[k]
        · have HT := Lib.hid ht
          clear ht
          go_wp2_with fail
          go_region_with (go_at_call 31; refine (sameToken_calls ts[k] us[k] B1 B2 d1 d2 _ (Kd.C_below HB1.out (Below.refl _ _).drew) (Kd.C_below HB2.out (Below.refl _ _).drew)).mono ?_; rintro e' w' ⟨rfl, hbw⟩; rw [HT.out]; have HBW := Lib.hid hbw; clear hbw)
          all_goals
            go_wp2
            go_ret
            have hf : (ts == us) = false := by rw [H.out, beq_step ts us k hlt hlu, HT.out]; rfl
            rw [hf]
            exact ⟨rfl, B.out.trans (((Below.refl _ _).drew.trans HBW.out).mono B.out.size)⟩
        · have HT := Lib.hid ht
          clear ht
          go_wp2_with fail
          go_region_with (go_at_call 31; refine (sameToken_calls ts[k] us[k] B1 B2 d1 d2 _ (Kd.C_below HB1.out (Below.refl _ _).drew) (Kd.C_below HB2.out (Below.refl _ _).drew)).mono ?_; rintro e' w' ⟨rfl, hbw⟩; rw [HT.out]; have HBW := Lib.hid hbw; clear hbw)
          all_goals
            go_wp2
            go_roundg (ts.length + 1 - (k + 1))
            case rel => exact ⟨k + 1, by omega, rfl, by go_num, B.out.trans (((Below.refl _ _).drew.trans HBW.out).mono B.out.size), by unfold Hid; rw [H.out, beq_step ts us k hlt hlu, HT.out]; rfl⟩
            case measure => omega
      · have hke : k = ts.length := by omega
        have hf : (ts == us) = true := by
          rw [H.out, hke, List.drop_length, HN.out, List.drop_length]
          rfl
        have HF := Lib.hid hf
        clear hf hke
        go_wp2
        go_ret
        rw [HF.out]
        exact ⟨rfl, B.out⟩
  · have hb : ((ts.length : Int) != us.length) = true := bne_iff_ne.2 (by omega)
    have hf : (ts == us) = false := beq_eq_false_iff_ne.2 (fun h => hne (congrArg List.length h))
    have HF := Lib.hid hf
    clear hf hne
    go_enter Tryz.func13, Tryz.ntmps13
    go_wp2
    go_ret
    rw [HF.out]
    exact ⟨rfl, Below.refl _ _⟩
end Go.Proofs.YtnhmgjochmollaaGreatDoor

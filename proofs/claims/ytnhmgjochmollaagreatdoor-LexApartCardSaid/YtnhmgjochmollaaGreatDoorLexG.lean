/- What package lex's scanning answers, as plain functions on lists of bytes: what stands between tokens, each kind of token, all tokens of a source. -/
import Derived.Test.YtnhmgjochmollaaGreatDoorLexF
namespace Go.Proofs.YtnhmgjochmollaaGreatDoor
open Go.RowKit
set_option linter.unusedSimpArgs false
set_option linter.unusedVariables false

/-- A token. -/
structure Tok where
  kind : Int
  at_ : Int
  size : Int
  text : List UInt8
  n : Int
  bytes : List UInt8
  deriving DecidableEq

/-- Where what is between tokens ends; false: a comment that is not closed begins there. -/
def skipS : Nat → List UInt8 → Bool × List UInt8
  | 0, r => (true, r)
  | _ + 1, [] => (true, [])
  | f + 1, c :: l =>
    if 0 ≤ Lib.indexByte [9, 10, 13, 32] c then skipS f l
    else if Lib.hasPrefix (c :: l) [47, 47] then skipS f (if Lib.indexByte (c :: l) 10 < 0 then [] else (c :: l).drop (Lib.indexByte (c :: l) 10).toNat)
    else if Lib.hasPrefix (c :: l) [47, 42] then if Lib.index ((c :: l).drop 2) [42, 47] < 0 then (false, c :: l) else skipS f ((c :: l).drop ((Lib.index ((c :: l).drop 2) [42, 47]).toNat + 4))
    else (true, c :: l)

/-- The byte of an escape, and how long that is; 0: it is none. -/
def escapeOf (l : List UInt8) : Int × Nat :=
  match l with
  | _ :: c :: r =>
    if c ≠ 120 then match imGet escMap c.toNat with
      | some (.int _ v) => (v, 2)
      | _ => (0, 0)
    else match r with
      | x :: y :: _ => if partB (x.toNat : Int) && partB (y.toNat : Int) then match pu 16 255 0 [x, y] with
        | .ok v => (v, 4)
        | _ => (0, 0) else (0, 0)
      | _ => (0, 0)
  | _ => (0, 0)

/-- A piece of a quoted text: its byte, and how long it is; 0: it is none. -/
def piece (c : UInt8) (l : List UInt8) : Int × Nat := if c = 92 then escapeOf (c :: l) else if c.toNat < 32 ∨ 126 < c.toNat then (c.toNat, 0) else (c.toNat, 1)
/-- What a quoted text comes to: its bytes, and what stands from its closing quote on; a place where it is wrong; or it is not closed. -/
inductive Quoted where
  | done (bs : List UInt8) (r : List UInt8)
  | bad (r : List UInt8)
  | gone
def quotedS (q : UInt8) : Nat → List UInt8 → Quoted
  | 0, _ => .gone
  | _ + 1, [] => .gone
  | f + 1, c :: l => if c = q then .done [] (c :: l) else if (piece c l).2 = 0 then .bad (c :: l) else
    match quotedS q f ((c :: l).drop (piece c l).2) with
    | .done bs r => .done (UInt8.ofNat (piece c l).1.toNat :: bs) r
    | x => x

/-- A token at the place a of a source of n bytes, r being what stands from there on; or what is wrong, and where. -/
def readS (n : Nat) (r : List UInt8) : Except (Int × Int) Tok :=
  let a : Int := n - r.length
  match r with
  | [] => .error (10, a)
  | c :: l =>
    if letB (c.toNat : Int) then .ok ⟨if isKey (r.take (runLen r)) then 2 else 1, a, runLen r, r.take (runLen r), 0, []⟩
    else if digB (c.toNat : Int) then
      match suffixOf (splitOf (r.take (runLen r))).2.2 with
      | none => .error (10, a)
      | some s => if (splitOf (r.take (runLen r))).2.1 = [] then .error (10, a) else
        match pu (splitOf (r.take (runLen r))).1.toNat 18446744073709551615 0 (splitOf (r.take (runLen r))).2.1 with
        | .ok v => .ok ⟨3, a, runLen r, s, wrap64 v, []⟩
        | _ => .error (5, a)
    else if c = 39 ∨ c = 34 then
      match quotedS c (l.length + 1) l with
      | .gone => .error (4, a)
      | .bad r' => .error (10, n - r'.length)
      | .done bs r' => if c = 34 then .ok ⟨5, a, (r.length - r'.length : Nat) + 1, [], 0, bs⟩ else
        match bs with
        | [b] => .ok ⟨4, a, (r.length - r'.length : Nat) + 1, [], b.toNat, []⟩
        | _ => .error (10, a)
    else if signLen r = 0 then .error (10, a) else .ok ⟨6, a, signLen r, r.take (signLen r), 0, []⟩

/-- The tokens from a place on; or what is wrong, and where. -/
def scanS (n : Nat) : Nat → List UInt8 → List Tok → Except (Int × Int) (List Tok)
  | 0, _, acc => .ok acc
  | _ + 1, [], acc => .ok acc
  | f + 1, c :: l, acc => match readS n (c :: l) with
    | .error e => .error e
    | .ok t => match skipS ((c :: l).length + 1) ((c :: l).drop t.size.toNat) with
      | (false, r) => .error (4, n - r.length)
      | (true, r) => scanS n f r (acc ++ [t])
/-- All tokens of a source. -/
def scanOf (s : List UInt8) : Except (Int × Int) (List Tok) :=
  if 4000 < s.length then .error (3, 4000) else
  match skipS (s.length + 1) s with
  | (false, r) => .error (4, s.length - r.length)
  | (true, r) => scanS s.length (s.length + 1) r []
end Go.Proofs.YtnhmgjochmollaaGreatDoor

/- Plain: what jlex's reader does with the bytes that are left. -/
namespace Go.Proofs.YtfikflmlcicedaaDoor

def isLetter (c : Int) : Bool := (decide (97 ≤ c) && decide (c ≤ 122)) || ((decide (65 ≤ c) && decide (c ≤ 90)) || c == 95)
def isDigit (c : Int) : Bool := decide (48 ≤ c) && decide (c ≤ 57)
def lt (c : UInt8) : Bool := isLetter (c.toNat : Int)
def dg (c : UInt8) : Bool := isDigit (c.toNat : Int)
def ld (c : UInt8) : Bool := lt c || dg c

/-- A blank. -/
def bl (c : UInt8) : Bool := c == 32 || (c == 9 || (c == 10 || c == 13))
/-- How many bytes part tokens here (true: inside a remark). -/
def skipN : Bool → List UInt8 → Nat
  | _, [] => 0
  | false, c :: t => if bl c then 1 + skipN false t else if c == 47 && t.head? == some 47 then 1 + skipN true t else 0
  | true, c :: t => if c == 10 then 1 + skipN false t else 1 + skipN true t

/-- The byte that comes; 0: none. -/
def pk (l : List UInt8) (n : Nat) : UInt8 := l.getD n 0

def runN (p : UInt8 → Bool) : List UInt8 → Nat
  | [] => 0
  | c :: t => if p c then 1 + runN p t else 0

/-- A token: its kind, text, number, and how many bytes it takes. -/
structure Tok where
  k : Int
  text : List UInt8
  num : Int
  n : Nat
deriving DecidableEq

def words : List (List UInt8) := [[108, 101, 116], [102, 110], [105, 102], [101, 108, 115, 101], [119, 104, 105, 108, 101], [102, 111, 114], [111, 102], [114, 101, 116, 117, 114, 110], [98, 114, 101, 97, 107], [99, 111, 110, 116, 105, 110, 117, 101], [116, 104, 114, 111, 119], [116, 114, 121], [99, 97, 116, 99, 104], [102, 105, 110, 97, 108, 108, 121], [116, 114, 117, 101], [102, 97, 108, 115, 101], [110, 117, 108, 108]]
def signs : List (List UInt8) := [[61, 61], [33, 61], [60, 61], [62, 61], [38, 38], [124, 124], [61], [33], [60], [62], [43], [45], [42], [47], [37], [40], [41], [91], [93], [123], [125], [44], [59], [58], [46], [63]]

def nameT (l : List UInt8) : Tok := ⟨if words.contains (l.take (runN ld l)) then 5 else 1, l.take (runN ld l), 0, runN ld l⟩

/-- The number that digits tell, from what was told; none: it is too large. -/
def numF : Int → List UInt8 → Option Int
  | a, [] => some a
  | a, c :: t => if 9007199254740992 < 10 * a + ((c.toNat : Int) - 48) then none else numF (10 * a + ((c.toNat : Int) - 48)) t

/-- A token, or what is wrong. -/
inductive Out where
  | tok : Tok → Out
  | err : Int → Out
deriving DecidableEq

def numberT (l : List UInt8) : Out :=
  match numF 0 (l.take (runN dg l)) with
  | none => .err 2
  | some v => if lt (pk l (runN dg l)) then .err 4 else .tok ⟨2, [], v, runN dg l⟩

def hexL : List UInt8 := [48, 49, 50, 51, 52, 53, 54, 55, 56, 57, 97, 98, 99, 100, 101, 102]
/-- The place of a byte, -1: none. -/
def placeOf : List UInt8 → UInt8 → Int
  | [], _ => -1
  | b :: l, c => if b == c then 0 else if placeOf l c == -1 then -1 else placeOf l c + 1
def hexv (c : UInt8) : Int := placeOf hexL c

/-- What stands behind a backslash: its byte, and how many it takes. -/
def esc (l : List UInt8) : Option (UInt8 × Nat) :=
  if pk l 0 == 34 || pk l 0 == 92 then some (pk l 0, 1)
  else if pk l 0 == 110 then some (10, 1)
  else if pk l 0 == 116 then some (9, 1)
  else if pk l 0 == 120 then
    if 0 ≤ hexv (pk l 1) ∧ 0 ≤ hexv (pk l 2) then some (UInt8.ofNat (hexv (pk l 1) * 16 + hexv (pk l 2)).toNat, 3) else none
  else none

/-- A text behind its quote (with so many steps): what it says, how many bytes it takes. -/
def textF : Nat → List UInt8 → List UInt8 → Nat → Option (List UInt8 × Nat)
  | 0, _, _, _ => none
  | _ + 1, _, [], _ => none
  | f + 1, acc, c :: t, n =>
    if c == 34 then some (acc, n + 1)
    else if c < 32 then none
    else if c == 92 then
      match esc t with
      | none => none
      | some (b, k) => textF f (acc ++ [b]) (t.drop k) (n + 1 + k)
    else textF f (acc ++ [c]) t (n + 1)
def textT (l : List UInt8) : Out :=
  match textF (l.length + 1) [] (l.drop 1) 1 with
  | none => .err 4
  | some (w, n) => .tok ⟨3, w, 0, n⟩

def signT (l : List UInt8) : Out :=
  if 2 ≤ l.length ∧ signs.contains (l.take 2) then .tok ⟨4, l.take 2, 0, 2⟩
  else if 1 ≤ l.length ∧ signs.contains (l.take 1) then .tok ⟨4, l.take 1, 0, 1⟩
  else .err 4

def nextT (l : List UInt8) : Out :=
  if lt (pk l 0) then .tok (nameT l) else if dg (pk l 0) then numberT l else if pk l 0 == 34 then textT l else signT l

/-- A token and where it begins. -/
structure Tk where
  t : Tok
  i : Nat
deriving DecidableEq

/-- All tokens from a place on (with so many steps), 'c' being there already: those, or what is wrong. -/
def lexF : Nat → Nat → Nat → List UInt8 → List Tk ⊕ Int
  | 0, _, _, _ => .inr 2
  | _ + 1, _, _, [] => .inl []
  | f + 1, c, i, l =>
    match nextT l with
    | .err e => .inr e
    | .tok t =>
      if c == 1000 then .inr 2 else
        match lexF f (c + 1) (i + t.n + skipN false (l.drop t.n)) (l.drop (t.n + skipN false (l.drop t.n))) with
        | .inl r => .inl (⟨t, i⟩ :: r)
        | .inr e => .inr e
def lex (l : List UInt8) : List Tk ⊕ Int :=
  if 2000 < l.length then .inr 2 else lexF (l.length + 1) 0 (skipN false l) (l.drop (skipN false l))
end Go.Proofs.YtfikflmlcicedaaDoor

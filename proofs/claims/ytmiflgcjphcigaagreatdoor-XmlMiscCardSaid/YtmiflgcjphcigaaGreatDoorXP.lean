/-
  The reader of elements as plain functions on lists of bytes; definitions and one closed computation, no condition.
-/
import Derived.Lib.Strings
import Derived.Lib.Index
import Derived.Lib.Fold
/-! The reader of elements, as plain functions on lists of bytes. -/
set_option linter.unusedVariables false
set_option linter.unusedSimpArgs false
namespace Go.Proofs.YtmiflgcjphcigaaGreatDoor
abbrev B := List UInt8
def isFirstB (c : UInt8) : Bool := decide (97 ≤ c.toNat ∧ c.toNat ≤ 122 ∨ 65 ≤ c.toNat ∧ c.toNat ≤ 90 ∨ c.toNat = 95 ∨ 128 ≤ c.toNat)
def isNextB (c : UInt8) : Bool := isFirstB c || decide (48 ≤ c.toNat ∧ c.toNat ≤ 57 ∨ c.toNat = 46 ∨ c.toNat = 45)
def isBlank (c : UInt8) : Bool := c == 32 || c == 9 || c == 10
/-- What a part of the reading comes to: a value, the rest and how many elements; a failure; or nothing is said. -/
inductive Out (α : Type) where
  | ok (x : α) (r : B) (m : Nat)
  | fail (e : Int)
  | unk
def Out.then {α β : Type} (o : Out α) (f : α → B → Nat → Out β) : Out β :=
  match o with
  | .ok x r m => f x r m
  | .fail e => .fail e
  | .unk => .unk
def wantP (t r : B) (m : Nat) : Out Unit := if Lib.hasPrefix r t then .ok () (r.drop t.length) m else .fail 10
def uptoP (t r : B) (m : Nat) : Out B := if 0 ≤ Lib.index r t then .ok (r.take (Lib.index r t).toNat) (r.drop ((Lib.index r t).toNat + t.length)) m else .fail 10
def nameP (r : B) (m : Nat) : Out B := if isFirstB (r.headD 0) then .ok (r.takeWhile isNextB) (r.dropWhile isNextB) m else .fail 10
def qualP (r : B) (m : Nat) : Out (B × B) :=
  (nameP r m).then fun n r m => if Lib.hasPrefix r [58] then (nameP (r.drop 1) m).then fun n2 r m => .ok (n, n2) r m else .ok ([], n) r m
def remarkP (r : B) (m : Nat) : Out Unit :=
  (wantP [60, 33, 45, 45] r m).then fun _ r m => (uptoP [45, 45] r m).then fun _ r m => wantP [62] r m
def instrP (first : Bool) (r : B) (m : Nat) : Out Unit :=
  (wantP [60, 63] r m).then fun _ r m => (nameP r m).then fun n r m =>
    if Lib.equalFold n [120, 109, 108] && !(first && n == [120, 109, 108]) then .fail 10 else
    if Lib.hasPrefix r [63, 62] then .ok () (r.drop 2) m else
    if isBlank (r.headD 0) then (uptoP [63, 62] (r.dropWhile isBlank) m).then fun _ r m => .ok () r m else .fail 10
def miscP (ahead : Bool) : Nat → B → Nat → Out Unit
  | 0, _, _ => .unk
  | k + 1, r, m =>
    if isBlank (r.headD 0) then miscP ahead k (r.dropWhile isBlank) m else
    if Lib.hasPrefix r [60, 33, 45, 45] then (remarkP r m).then fun _ r m => miscP ahead k r m else
    if Lib.hasPrefix r [60, 63] then (instrP false r m).then fun _ r m => miscP ahead k r m else
    if ahead && Lib.hasPrefix r [60, 33, 68, 79, 67, 84, 89, 80, 69] then .fail 13 else .ok () r m
/-- A reference: '&#10;' alone is spoken of. -/
def refP (r : B) (m : Nat) : Out B := if Lib.hasPrefix r [38, 35, 49, 48, 59] then .ok [10] (r.drop 5) m else .unk
def valueP (q : UInt8) : Nat → B → B → Nat → Out B
  | 0, _, _, _ => .unk
  | _ + 1, _, [], _ => .fail 10
  | k + 1, acc, c :: r, m =>
    if c == 60 then .fail 10 else
    if c == q then .ok acc r m else
    if c == 38 then (refP (c :: r) m).then fun x r m => valueP q k (acc ++ x) r m else
    valueP q k (acc ++ [if c == 9 || c == 10 then 32 else c]) r m
def attrP (r : B) (m : Nat) : Out (B × B × B) :=
  (qualP r m).then fun x r m => (wantP [61] (r.dropWhile isBlank) m).then fun _ r m =>
    if (r.dropWhile isBlank).headD 0 == 34 || (r.dropWhile isBlank).headD 0 == 39 then
      (valueP ((r.dropWhile isBlank).headD 0) (r.length + 1) [] ((r.dropWhile isBlank).drop 1) m).then fun v r m => .ok (x.1, x.2, v) r m
    else .fail 10
def attrsP : Nat → List (B × B × B) → B → Nat → Out (List (B × B × B))
  | 0, _, _, _ => .unk
  | k + 1, l, r, m =>
    if isBlank (r.headD 0) && isFirstB ((r.dropWhile isBlank).headD 0) then (attrP (r.dropWhile isBlank) m).then fun x r m => attrsP k (l ++ [x]) r m
    else .ok l (r.dropWhile isBlank) m
/-- Spaces by prefixes; none: the empty text. -/
abbrev Sc := B → B
def Sc.set (f : Sc) (p u : B) : Sc := fun q => if q = p then u else f q
def xmlnsB : B := [120, 109, 108, 110, 115]
def xmlB : B := [120, 109, 108]
def dup (x y : B × B × B) : Bool := x.1 == y.1 && x.2.1 == y.2.1
def twiceFrom : List (B × B × B) → List (B × B × B) → Bool
  | _, [] => false
  | seen, x :: l => seen.any (dup x) || twiceFrom (seen ++ [x]) l
def twiceP (l : List (B × B × B)) : Bool := twiceFrom [] l
/-- The spaces that attributes tell; an error. -/
def spacesP : Sc → List (B × B × B) → Option Sc
  | f, [] => some f
  | f, x :: l =>
    if x.1 == [] && x.2.1 == xmlnsB then spacesP (f.set [] x.2.2) l else
    if x.1 == xmlnsB then (if x.2.2 != [] && x.2.1 != xmlnsB && x.2.1 != xmlB then spacesP (f.set x.2.1 x.2.2) l else none) else spacesP f l
/-- The attributes, with their spaces; an error. -/
def spacedAttrsP (f : Sc) : List (B × B × B) → Option (List (B × B × B))
  | [] => some []
  | x :: l =>
    if x.1 == xmlnsB || x.1 == [] && x.2.1 == xmlnsB then spacedAttrsP f l else
    if x.1 == [] || f x.1 != [] then (spacedAttrsP f l).map fun l' => (if x.1 == [] then [] else f x.1, x.2.1, x.2.2) :: l' else none
def spacedP (f : Sc) (p : B) (l : List (B × B × B)) : Except Int (Sc × List (B × B × B)) :=
  if twiceP l then .error 8 else
  match spacesP f l with
  | none => .error 10
  | some g =>
    if p == [] || g p != [] then
      match spacedAttrsP g l with
      | none => .error 12
      | some a => if twiceP a then .error 8 else .ok (g, a)
    else .error 12
/-- An element; one of no name but a text. -/
inductive E where
  | mk (space name text : B) (attrs : List (B × B × B)) (kids : List E)
def flushP (l : List E) (acc : B) : List E := if acc.length > 0 then l ++ [E.mk [] [] acc [] []] else l
mutual
def elemP : Nat → Sc → Nat → B → Nat → Out E
  | 0, _, _, _, _ => .unk
  | k + 1, f, deep, r, m =>
    if Lib.hasPrefix r [60] && isFirstB (r.getD 1 0) then
      if m < 16384 && deep ≤ 256 then
        (qualP (r.drop 1) (m + 1)).then fun pn r m => (attrsP (r.length + 1) [] r m).then fun l r m =>
          if Lib.hasPrefix r [47, 62] then
            match spacedP f pn.1 l with
            | .error e => .fail e
            | .ok (g, a) => .ok (.mk (g pn.1) pn.2 [] a []) (r.drop 2) m
          else (wantP [62] r m).then fun _ r m =>
            match spacedP f pn.1 l with
            | .error e => .fail e
            | .ok (g, a) => (contP k g deep [] [] r m).then fun kids r m => (wantP [60, 47] r m).then fun _ r m => (qualP r m).then fun qn r m =>
              if qn.1 == pn.1 && qn.2 == pn.2 then (wantP [62] (r.dropWhile isBlank) m).then fun _ r m => .ok (.mk (g pn.1) pn.2 [] a kids) r m else .fail 10
      else .fail 6
    else .fail 10
def contP : Nat → Sc → Nat → List E → B → B → Nat → Out (List E)
  | 0, _, _, _, _, _, _ => .unk
  | k + 1, f, deep, l, acc, r, m =>
    if Lib.hasPrefix r [60, 47] then .ok (flushP l acc) r m else
    if Lib.hasPrefix r [60, 33, 45, 45] then (remarkP r m).then fun _ r m => contP k f deep l acc r m else
    if Lib.hasPrefix r [60, 63] then (instrP false r m).then fun _ r m => contP k f deep l acc r m else
    if Lib.hasPrefix r [60, 33, 91, 67, 68, 65, 84, 65, 91] then (uptoP [93, 93, 62] (r.drop 9) m).then fun x r m => contP k f deep l (acc ++ x) r m else
    if Lib.hasPrefix r [60] then (elemP k f (deep + 1) r m).then fun x r m => contP k f deep (flushP l acc ++ [x]) [] r m else
    if Lib.hasPrefix r [38] then (refP r m).then fun x r m => contP k f deep l (acc ++ x) r m else
    match r with
    | [] => .fail 10
    | c :: r' => if Lib.hasPrefix (c :: r') [93, 93, 62] then .fail 10 else contP k f deep l (acc ++ [c]) r' m
end
def scope0 : Sc := fun p => if p = xmlB then [104, 116, 116, 112, 58, 47, 47, 119, 119, 119, 46, 119, 51, 46, 111, 114, 103, 47, 88, 77, 76, 47, 49, 57, 57, 56, 47, 110, 97, 109, 101, 115, 112, 97, 99, 101] else []
def okByte (c : UInt8) : Bool := decide (c.toNat < 128) && (c == 9 || c == 10 || decide (32 ≤ c.toNat))
/-- The element that a text of ASCII without returns is. -/
def readP (k : Nat) (r : B) : Out E :=
  if r.all okByte then
    (if Lib.hasPrefix r [60, 63, 120, 109, 108] && !isNextB (r.getD 5 0) then instrP true r 0 else .ok () r 0).then fun _ r m =>
    (miscP true k r m).then fun _ r m => (elemP k scope0 0 r m).then fun x r m => (miscP false k r m).then fun _ r m =>
    if r = [] then .ok x r m else .fail 10
  else .unk
/-- '<a x="1&#10;2"> b</a>'. -/
def knownB : B := [60, 97, 32, 120, 61, 34, 49, 38, 35, 49, 48, 59, 50, 34, 62, 32, 98, 60, 47, 97, 62]
theorem known_read : readP 30 knownB = .ok (.mk [] [97] [] [([], [120], [49, 10, 50])] [.mk [] [] [32, 98] [] []]) [] 1 := by rfl
end Go.Proofs.YtmiflgcjphcigaaGreatDoor

/-
  A part of the proof of statements on the element reader of package xml (XQ): lemmas on what its functions come to; their conditions stand in each theorem.
-/
import Derived.Test.YtmiflgcjphcigaaGreatDoorXP
/-! The elements that the statements' texts hold. -/
set_option linter.unusedVariables false
set_option linter.unusedSimpArgs false
namespace Go.Proofs.YtmiflgcjphcigaaGreatDoor
/-- What flush does to the row of kids, by the bytes in the builder. -/
def flushP' (acc : B) (l : List E) : List E := if acc = [] then l else l ++ [E.mk [] [] acc [] []]
mutual
def elemQ : Nat → Sc → Nat → B → Nat → Out E
  | 0, _, _, _, _ => .unk
  | k + 1, f, deep, r, m =>
    if Lib.hasPrefix r [60] && isFirstB (r.getD 1 0) then
      if m < 16384 && deep ≤ 256 then
        (qualP (r.drop 1) (m + 1)).then fun pn r m => (attrsP (r.length + 1) [] r m).then fun l r m =>
          if Lib.hasPrefix r [47, 62] then
            match spacedP f pn.1 l with
            | .error e => .fail e
            | .ok (g, a) => .ok (.mk (g pn.1) pn.2 [] a []) (r.drop 2) m
          else (wantP [62] r m).then fun _ r m =>
            match spacedP f pn.1 l with
            | .error e => .fail e
            | .ok (g, a) => (contQ k g deep [] [] r m).then fun kids r m => (wantP [60, 47] r m).then fun _ r m => (qualP r m).then fun qn r m =>
              if qn.1 == pn.1 && qn.2 == pn.2 then (wantP [62] (r.dropWhile isBlank) m).then fun _ r m => .ok (.mk (g pn.1) pn.2 [] a kids) r m else .fail 10
      else .fail 6
    else .fail 10
def contQ : Nat → Sc → Nat → List E → B → B → Nat → Out (List E)
  | 0, _, _, _, _, _, _ => .unk
  | k + 1, f, deep, l, acc, r, m =>
    if Lib.hasPrefix r [60, 47] then .ok (flushP' acc l) r m else
    if Lib.hasPrefix r [60, 33, 45, 45] then .unk else
    if Lib.hasPrefix r [60, 63] then .unk else
    if Lib.hasPrefix r [60, 33, 91, 67, 68, 65, 84, 65, 91] then .unk else
    if Lib.hasPrefix r [60] then (elemQ k f (deep + 1) r m).then fun x r m => contQ k f deep (flushP' acc l ++ [x]) [] r m else
    if Lib.hasPrefix r [38] then .unk else
    match r with
    | [] => .unk
    | c :: r' => if Lib.hasPrefix (c :: r') [93, 93, 62] then .unk else contQ k f deep l (acc ++ [c]) r' m
end
def readQ (k : Nat) (r : B) : Out E :=
  if r.all okByte then
    (if Lib.hasPrefix r [60, 63, 120, 109, 108] && !isNextB (r.getD 5 0) then instrP true r 0 else .ok () r 0).then fun _ r m =>
    (miscP true k r m).then fun _ r m => (elemQ k scope0 0 r m).then fun x r m => (miscP false k r m).then fun _ r m =>
    if r = [] then .ok x r m else .fail 10
  else .unk
theorem known_readQ : readQ 30 knownB = .ok (.mk [] [97] [] [([], [120], [49, 10, 50])] [.mk [] [] [32, 98] [] []]) [] 1 := by rfl
end Go.Proofs.YtmiflgcjphcigaaGreatDoor

/- The plain laws' words: paths, trees, archives as functions on lists of bytes. No Go here. -/
namespace Go.Proofs.YtmdpmpdlkaogdaaGreatDoor
namespace Sp
abbrev Bytes := List UInt8

def right (c : UInt8) : Bool := !(c == 34 || c == 92 || c == 42 || c == 63 || c == 58) && (32 < c && c < 127)
/-- What is wrong with a part: 0 or 50. -/
def part (s : Bytes) : Int := if 32 < s.length then 50 else if s.all right then 0 else 50

/-- What stands between the slashes. -/
def split : Bytes → List Bytes
  | [] => [[]]
  | c :: s => if c = 47 then [] :: split s else match split s with | x :: l => (c :: x) :: l | [] => [[c]]

/-- Parts, one after another, behind others of which the first ones stay. -/
def walk (stay : Nat) : List Bytes → List Bytes → List Bytes × Int
  | l, [] => if 12 < l.length then ([], 50) else (l, 0)
  | l, x :: xs =>
    if x = [] then walk stay l xs
    else if x = [46] then walk stay l xs
    else if x = [46, 46] then (if l.length = stay then ([], 51) else walk stay l.dropLast xs)
    else if part x = 0 then walk stay (l ++ [x]) xs else ([], part x)

def glue : List Bytes → Bytes
  | [] => []
  | [x] => x
  | x :: y :: l => x ++ 47 :: glue (y :: l)

def parts (p : Bytes) : List Bytes := if p = [] then [] else split p

def join (dir s : Bytes) : Bytes × Int :=
  if 200 < s.length + (if dir = [] then 0 else dir.length + 1) then ([], 50)
  else if s.head? = some 47 then ([], 51)
  else let r := walk (parts dir).length (parts dir) (split s); if r.2 = 0 then (glue r.1, 0) else ([], r.2)

def clean (s : Bytes) : Bytes × Int := join [] s

/-- Where the last slash stands; -1: nowhere. -/
def lastSlash : Bytes → Int
  | [] => -1
  | c :: s => let k := lastSlash s; if 0 ≤ k then k + 1 else if c = 47 then 0 else -1

def parent (p : Bytes) : Bytes := p.take (max (lastSlash p) 0).toNat
def within (p dir : Bytes) : Bool := dir == [] || p == dir || (dir ++ [47]).isPrefixOf p
end Sp
end Go.Proofs.YtmdpmpdlkaogdaaGreatDoor

/-
  The evaluator and what is proved of it (several texts in one).
-/
import Derived.Test.YtihplijjkcdcjaaGreatDoorDfA
import Derived.Test.YtihplijjkcdcjaaGreatDoorAbsSum
import Derived.Test.YtihplijjkcdcjaaGreatDoorAbsE
import Derived.Test.YtihplijjkcdcjaaGreatDoorAbsA
set_option linter.unusedVariables false
set_option linter.unusedSimpArgs false
/-
  Lists of keys and values, plain: the first one counts. No program in sight.
-/
namespace Go.Proofs.YtihplijjkcdcjaaGreatDoor
section
variable {K V : Type} [BEq K] [LawfulBEq K]
def aput : List (K × V) → K → V → List (K × V)
  | [], k, v => [(k, v)]
  | e :: l, k, v => if k == e.1 then (k, v) :: l else e :: aput l k v
def adel : List (K × V) → K → List (K × V)
  | [], _ => []
  | e :: l, k => if k == e.1 then l else e :: adel l k
def akeys (l : List (K × V)) : List K := l.map (·.1)

omit [LawfulBEq K] in
end
end Go.Proofs.YtihplijjkcdcjaaGreatDoor

/-
  Numbers as bytes, seven bits each: laying and reading, plain. No program in sight.
-/
namespace Go.Proofs.YtihplijjkcdcjaaGreatDoor

/-- a reader: bytes ahead, and whether it has failed -/
structure Rd where
  b : List UInt8
  bad : Bool
end Go.Proofs.YtihplijjkcdcjaaGreatDoor

/-
  A version's bytes, plain: laying, reading, and that reading brings back what was laid. No program in sight.
-/
namespace Go.Proofs.YtihplijjkcdcjaaGreatDoor

structure MF where
  num : Int
  level : Int
  first : List UInt8
  last : List UInt8
structure MV where
  files : List MF
  next : Int
  seq : Nat
  log : Int
/-- may a file be? -/
structure GoodF (next : Int) (f : MF) : Prop where
  n1 : 1 ≤ f.num
  n2 : f.num < next
  l0 : 0 ≤ f.level
  l6 : f.level ≤ 6
  fl : f.first.length ≤ 256
  ll : f.last.length ≤ 256
structure GoodV (v : MV) : Prop where
  most : v.files.length ≤ 1000
  n1 : 1 ≤ v.next
  n2 : v.next ≤ 999999
  l1 : 0 ≤ v.log
  l2 : v.log ≤ 999999
  all : ∀ f ∈ v.files, GoodF v.next f
  nodup : (v.files.map (·.num)).Nodup
end Go.Proofs.YtihplijjkcdcjaaGreatDoor

/-
  A file system that crashes, plain: names, what is safe of them, the changes since; files by numbers. No program in sight.
-/
namespace Go.Proofs.YtihplijjkcdcjaaGreatDoor
noncomputable section

abbrev Nm := List UInt8
/-- a list of names and files: the first one counts -/
abbrev Nms := List (Nm × Nat)
/-- a change of the directory: a file gets a name, and a name is gone -/
structure Chg where
  name : Nm
  file : Option Nat
  gone : Nm
def Chg.go (l : Nms) (c : Chg) : Nms :=
  match c.file with
  | none => if c.gone = [] then l else adel l c.gone
  | some f => aput (if c.gone = [] then l else adel l c.gone) c.name f
/-- a file: its bytes, how many are safe -/
structure DF where
  bytes : List UInt8
  safe : Nat
structure DD where
  quota : Int
  names : Nms
  safe : Nms
  chgs : List Chg
  appends : Int
  syncs : Int
abbrev Fs := Nat → DF
def DD.total (d : DD) (F : Fs) : Nat := (d.names.map fun e => (F e.2).bytes.length).sum
def DD.keys (d : DD) : List Nm := Abs.sortB (akeys d.names)
def Fs.put (F : Fs) (i : Nat) (f : DF) : Fs := fun j => if j = i then f else F j
end
end Go.Proofs.YtihplijjkcdcjaaGreatDoor

/-
  Frames, plain: a payload's length and sum, and the payload; what a scan tells. No program in sight.
-/
namespace Go.Proofs.YtihplijjkcdcjaaGreatDoor
noncomputable section
end
end Go.Proofs.YtihplijjkcdcjaaGreatDoor


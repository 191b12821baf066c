/- Plain mathematics of operations, their order, and the progress of a garment. No program in sight. -/
namespace Go.Proofs.Ytcolekfjmhgldaa.Pr

/-- an operation: its name, machine, minutes, predecessors, and how many uses it has -/
structure Opn where
  name : ByteArray
  machine : Int
  minutes : Int
  after : List Int
  uses : Nat

def letterB (c : Int) : Bool := decide (97 ≤ c) && decide (c ≤ 122)
def furtherB (c : Int) : Bool := (decide (48 ≤ c) && decide (c ≤ 57)) || decide (c = 95)
/-- the character c at place i -/
def charB (i : Nat) (c : Int) : Bool := letterB c || (decide (i ≠ 0) && furtherB c)
/-- the characters below place k -/
def charsB (s : List UInt8) : Nat → Bool
  | 0 => true
  | k + 1 => charsB s k && charB k (s.getD k 0).toNat
def nameB (s : ByteArray) : Bool := decide (s.data.toList ≠ []) && decide (s.data.toList.length ≤ 24) && decide (s.data.toList ≠ [109, 105, 110]) && decide (s.data.toList ≠ [109, 97, 120]) && charsB s.data.toList s.data.toList.length

def aft (l : List Opn) (i : Nat) : List Int := match l[i]? with
  | some o => o.after
  | none => []
def inB (n : Nat) (a : Int) : Bool := decide (0 ≤ a) && decide (a < (n : Int))
/-- the first error of operation i -/
def err1 (l : List Opn) (i : Nat) : Int := match l[i]? with
  | none => 0
  | some o => if nameB o.name = false then 1 else if (l.take i).any (fun e => decide (e.name = o.name)) = true then 7 else if o.machine < 0 ∨ 8 ≤ o.machine ∨ o.minutes < 1 ∨ 10000 < o.minutes then 3
      else if o.after.all (inB l.length) = false then 3 else if o.after.Nodup then 0 else 7
def errFrom (l : List Opn) : Nat → Nat → Int
  | 0, _ => 0
  | f + 1, i => if err1 l i = 0 then errFrom l f (i + 1) else err1 l i
def singleE (l : List Opn) : Int := errFrom l l.length 0

/-- an operation that may come next -/
def readyB (l : List Opn) (out : List Int) (i : Nat) : Bool := !decide ((i : Int) ∈ out) && (aft l i).all (fun a => decide (a ∈ out))
/-- the first place from i on, f places at most -/
def pickTo (l : List Opn) (out : List Int) : Nat → Nat → Option Nat
  | 0, _ => none
  | f + 1, i => if readyB l out i = true then some i else pickTo l out f (i + 1)
def pick (l : List Opn) (out : List Int) : Option Nat := pickTo l out l.length 0
def greedy (l : List Opn) : Nat → List Int → List Int
  | 0, out => out
  | f + 1, out => match pick l out with
    | some i => greedy l f (out ++ [(i : Int)])
    | none => out
def srt (l : List Opn) : List Int := greedy l l.length []

def ordE (l : List Opn) : Int := if 16 < l.length then 5 else if singleE l ≠ 0 then singleE l else if (srt l).length < l.length then 9 else 0
def ordL (l : List Opn) : List Int := if ordE l = 0 then srt l else []

/-- which operations a precedes, along an order -/
def metStep (l : List Opn) (a : Int) (m : List Bool) (i : Int) : List Bool :=
  if (aft l i.toNat).any (fun p => decide (p = a) || m.getD p.toNat false) = true then m.set i.toNat true else m
def met (l : List Opn) (od : List Int) (a : Int) : List Bool := od.foldl (metStep l a) (List.replicate l.length false)
def folB (l : List Opn) (a : Int) (b : Nat) : Bool := (met l (srt l) a).getD b false
def ids (n : Nat) : List Int := (List.range n).map fun (i : Nat) => (i : Int)
def fols (l : List Opn) (a : Int) : List Int := (ids l.length).filter fun b => folB l a b.toNat

structure Prg where
  state : Int
  done : List Int
  opn : List Int
  rework : Int
def zeroP : Prg := ⟨0, [], [], 0⟩
def newP (l : List Opn) : Prg := ⟨1, List.replicate l.length 0, ids l.length, 0⟩

def waitsB (l : List Opn) (opn : List Int) (i : Nat) : Bool := (aft l i).any fun a => decide (a ∈ opn)
/-- ascending above last and below n -/
def ascB (n : Nat) : Int → List Int → Bool
  | _, [] => true
  | last, x :: r => decide (last < x) && decide (x < (n : Int)) && ascB n x r
/-- the numbers of completions from place i on are right -/
def cntB (l : List Opn) (opn : List Int) : Nat → List Int → Bool
  | _, [] => true
  | i, n :: r => decide (0 ≤ n) && decide (n ≤ 1073741824) && (decide ((i : Int) ∈ opn) || (decide (n ≠ 0) && !waitsB l opn i)) && cntB l opn (i + 1) r
def validB (l : List Opn) (p : Prg) : Bool :=
  decide (1 ≤ p.state) && decide (p.state ≤ 4) && decide (p.done.length = l.length) && decide (p.opn.length ≤ l.length) && decide (0 ≤ p.rework) && decide (p.rework ≤ 1073741824) && ascB l.length (-1) p.opn && cntB l p.opn 0 p.done

def doneR (l : List Opn) (p : Prg) (op : Int) : Int × Prg :=
  if op < 0 ∨ (l.length : Int) ≤ op then (3, zeroP) else if ¬ op ∈ p.opn then (8, zeroP) else if waitsB l p.opn op.toNat = true then (21, zeroP)
  else (0, ⟨if p.opn.erase op = [] then 1 else p.state, p.done.set op.toNat (p.done.getD op.toNat 0 + 1), p.opn.erase op, p.rework⟩)
def openD (l : List Opn) (p : Prg) (op : Int) : List Int := (ids l.length).filter fun x => decide (x ∈ p.opn) || decide (x = op) || folB l op x.toNat
def defectR (l : List Opn) (p : Prg) (op most : Int) : Int × Prg :=
  if op < 0 ∨ (l.length : Int) ≤ op then (3, zeroP) else if op ∈ p.opn then (8, zeroP)
  else (0, ⟨if most < p.rework + 1 then 4 else 2, p.done, openD l p op, p.rework + 1⟩)
def passR (p : Prg) (op : Int) : Int × Prg := if op ≠ 0 then (3, zeroP) else if p.opn ≠ [] then (8, zeroP) else (0, ⟨3, p.done, p.opn, p.rework⟩)
def rejectR (p : Prg) (op : Int) : Int × Prg := if op ≠ 0 then (3, zeroP) else (0, ⟨4, p.done, p.opn, p.rework⟩)
def actR (l : List Opn) (p : Prg) (k op most : Int) : Int × Prg :=
  if k = 1 then doneR l p op else if k = 2 then defectR l p op most else if k = 3 then passR p op else if k = 4 then rejectR p op else (1, zeroP)
def stepR (l : List Opn) (p : Prg) (k op most : Int) : Int × Prg :=
  if ordE l ≠ 0 then (ordE l, zeroP) else if validB l p = false then (1, zeroP) else if p.state = 3 ∨ p.state = 4 then (8, zeroP) else actR l p k op most

structure Res where
  err : Int
  prg : Prg
  idx : Int
def runTo (l : List Opn) (most : Int) : List (Int × Int) → Nat → Prg → Res
  | [], _, p => ⟨0, p, 0⟩
  | e :: es, i, p => if (stepR l p e.1 e.2 most).1 = 0 then runTo l most es (i + 1) (stepR l p e.1 e.2 most).2 else ⟨(stepR l p e.1 e.2 most).1, zeroP, i⟩
def runR (l : List Opn) (es : List (Int × Int)) (most : Int) : Res := if ordE l = 0 then runTo l most es 0 (newP l) else ⟨ordE l, zeroP, 0⟩
end Go.Proofs.Ytcolekfjmhgldaa.Pr

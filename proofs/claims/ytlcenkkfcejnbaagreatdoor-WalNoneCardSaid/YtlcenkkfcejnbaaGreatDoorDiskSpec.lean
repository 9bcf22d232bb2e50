/- The disk as plain data: what each call makes of it. No program in sight. -/
import Derived.Test.YtlcenkkfcejnbaaGreatDoorDiskGood
namespace Go.Proofs.YtlcenkkfcejnbaaGreatDoor
open Go.RowKit
namespace Disk

abbrev Bytes := List UInt8

structure File where
  name : Bytes
  id : Nat
  all : Bytes
  written : Nat
  deriving DecidableEq, Repr

structure DS where
  room : Int
  files : List File
  line : List (Nat × Nat)
  dark : Bool
  ops : Int
  plan : Int
  keep : Int
  next : Nat
  deriving DecidableEq, Repr

def sectors (n : Nat) : Nat := n / 16 + min (n % 16) 1
def used (l : List File) : Nat := (l.map fun f => sectors f.all.length + 1).sum
def DS.free (σ : DS) : Int := σ.room - used σ.files
def DS.find (σ : DS) (name : Bytes) : Option File := σ.files.find? fun f => f.name == name
def upd (id : Nat) (g : File → File) (l : List File) : List File := l.map fun f => if f.id = id then g f else f

def DS.fault (σ : DS) (names : List Bytes) (wanted : Bool) : Int :=
  if σ.dark then 9 else if names.any (fun s => !good s) then 3
  else if wanted && (σ.find (names.headD [])).isNone then 4 else 0

/-- How many bytes of a file are written behind the crash of the sectors. -/
def wrote (l : List (Nat × Nat)) (id : Nat) (len w : Nat) : Nat :=
  l.foldl (fun w m => if m.1 = id then min ((m.2 + 1) * 16) len else w) w

def DS.crash (σ : DS) (keep : Int) : DS :=
  if σ.dark then σ else
  let l := σ.line.take (min (max keep 0).toNat σ.line.length)
  { σ with
    files := σ.files.map fun f => { f with all := f.all.take (wrote l f.id f.all.length f.written), written := wrote l f.id f.all.length f.written }
    line := [], dark := true }

def DS.tick (σ : DS) : DS := { σ with ops := wrap64 (σ.ops + 1), plan := if 0 < σ.plan then σ.plan - 1 else σ.plan }

def DS.perform (σ : DS) (half rest : DS → DS) : Int × DS :=
  let σ1 := half σ.tick
  if σ.plan = 1 then (9, σ1.crash σ1.keep) else (0, rest σ1)

def DS.forget (σ : DS) (id : Nat) : DS := { σ with line := σ.line.filter fun m => m.1 != id }

def DS.unlink (σ : DS) (name : Bytes) : DS :=
  match σ.find name with
  | none => σ
  | some f => { σ.forget f.id with files := σ.files.filter fun g => g.name != name }

def DS.create (σ : DS) (name : Bytes) : Int × DS :=
  let e := σ.fault [name] false
  if e ≠ 0 then (e, σ)
  else if (σ.find name).isNone ∧ (48 ≤ σ.files.length ∨ σ.free < 1) then (7, σ)
  else σ.perform id fun σ =>
    let σ1 := σ.unlink name
    { σ1 with files := σ1.files ++ [{ name, id := σ1.next, all := [], written := 0 }], next := σ1.next + 1 }

def soilTo (line : List (Nat × Nat)) (id : Nat) : Nat → Nat → List (Nat × Nat)
  | _, 0 => line
  | n, k + 1 => soilTo (if (id, n) ∈ line then line else line ++ [(id, n)]) id (n + 1) k
def DS.soil (σ : DS) (id len from_ : Nat) : DS := { σ with line := soilTo σ.line id (from_ / 16) (sectors len - from_ / 16) }

def DS.append (σ : DS) (name : Bytes) (b : Bytes) : Int × DS :=
  let e := σ.fault [name] true
  if e ≠ 0 then (e, σ) else
  match σ.find name with
  | none => (4, σ)
  | some f =>
    if σ.free < (sectors (f.all.length + b.length) : Int) - sectors f.all.length then (7, σ)
    else σ.perform (fun σ =>
      let σ1 : DS := { σ with files := upd f.id (fun g => { g with all := g.all ++ b }) σ.files }
      if b.length = 0 then σ1 else σ1.soil f.id (f.all.length + b.length) f.all.length) id

def DS.sync (σ : DS) (name : Bytes) : Int × DS :=
  let e := σ.fault [name] true
  if e ≠ 0 then (e, σ) else
  match σ.find name with
  | none => (4, σ)
  | some f => σ.perform id fun σ => { σ.forget f.id with files := upd f.id (fun g => { g with written := g.all.length }) σ.files }

def DS.rename (σ : DS) (from_ to : Bytes) : Int × DS :=
  let e := σ.fault [from_, to] true
  if e ≠ 0 then (e, σ) else
  σ.perform id fun σ =>
    if from_ = to then σ else
    let σ1 := σ.unlink to
    match σ1.find from_ with
    | none => σ1
    | some f => { σ1 with files := (σ1.files.filter fun g => g.name != from_) ++ [{ f with name := to }] }

def DS.remove (σ : DS) (name : Bytes) : Int × DS :=
  let e := σ.fault [name] true
  if e ≠ 0 then (e, σ) else σ.perform id fun σ => σ.unlink name

def DS.read (σ : DS) (name : Bytes) : Bytes × Int :=
  let e := σ.fault [name] true
  if e ≠ 0 then ([], e) else (((σ.find name).map (·.all)).getD [], 0)

def DS.arm (σ : DS) (n keep : Int) : Int × DS :=
  if σ.dark then (9, σ) else if n < 0 then (2, σ) else (0, { σ with plan := n, keep := keep })

def DS.start (σ : DS) : DS := { σ with dark := false, plan := 0 }

def mk (room : Int) : DS := { room, files := [], line := [], dark := false, ops := 0, plan := 0, keep := 0, next := 0 }

/-- What every disk keeps to. -/
structure DS.Wf (σ : DS) : Prop where
  room : σ.room ≤ 1073741824
  free : 0 ≤ σ.free
  most : σ.files.length ≤ 48
  names : (σ.files.map (·.name)).Nodup
  ids : (σ.files.map (·.id)).Nodup
  next : ∀ f ∈ σ.files, f.id < σ.next
  written : ∀ f ∈ σ.files, f.written ≤ f.all.length
  line : σ.line.Nodup
  dirty : ∀ m ∈ σ.line, ∃ f ∈ σ.files, f.id = m.1 ∧ m.2 < sectors f.all.length
  good : ∀ f ∈ σ.files, good f.name = true

end Disk
end Go.Proofs.YtlcenkkfcejnbaaGreatDoor

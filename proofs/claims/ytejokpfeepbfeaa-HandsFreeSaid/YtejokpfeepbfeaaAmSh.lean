/-
  The abstract machine: words of the shallow functions.
-/
import Derived.Test.YtejokpfeepbfeaaAmEq
namespace Go.AM

/-- A call's body, whatever its own calls do. -/
def runR (P : Program) (C : Cfg) (cr : FuncId → List Value → Heap → Res) (n : Nat) (f : FuncId) (args : List Value) (h : Heap) : Res :=
  match P.funcs[f]? with
  | some fn =>
    match fn.body with
    | some c => codeR P C cr n f 0 c (argEnv args) h fun e t h =>
      match e with
      | .exit _ => none
      | _ => (resultsV P t h fn.results.toList).bind fun l => some (.ret (tup l) h)
    | none => none
  | none => none

theorem callR_succ (P : Program) (C : Cfg) (n : Nat) (f : FuncId) (args : List Value) (h : Heap) : callR P C (n + 1) f args h = runR P C (callR P C n) n f args h := rfl

def ifR (v : Value) (x y : Res) : Res :=
  match v with
  | .bool b => cond b x y
  | _ => none

def gd (want : Bool) (v : Value) (r : Res) (h : Heap) : Res :=
  match v with
  | .bool b => cond (cond want b (!b)) r (some (.ret skipV h))
  | .chan none => some (.ret skipV h)
  | _ => none

def agn1 (h : Heap) (a v : Value) : Bool :=
  match ld1 h a with
  | some u => veq u v
  | none => false

def agnN (h : Heap) (n : Nat) (a v : Value) : Bool :=
  match ldN h n a, v with
  | some l, .agg cs => veqL l cs.toList
  | _, _ => false

def agnG (want : Bool) (g : Value) (r : Bool) : Bool :=
  match g with
  | .bool b => cond (cond want b (!b)) r true
  | .chan none => true
  | _ => false

def isSl : Value → Bool
  | .slice _ _ _ => true
  | _ => false
def isSt : Value → Bool
  | .string _ => true
  | _ => false

def lenRS (h : Heap) (v : Value) : Res := bif isSl v then pureR (lenV v) h else none
def lenRT (h : Heap) (v : Value) : Res := bif isSt v then pureR (lenV v) h else none

end Go.AM

/-
  The abstract machine: from a closed run to the walk of a law.
-/
import Derived.Test.YtejokpfeepbfeaaAmCode
import Derived.Below
namespace Go.AM
open Go.RowKit (Below)

def isTrue : Res → Bool
  | some (.ret (.bool b) _) => b
  | _ => false

theorem isTrue_some {r : Res} (e : isTrue r = true) : ∃ h, r = some (.ret (.bool true) h) := by
  match r, e with
  | some (.ret (.bool b) h), e => simp only [isTrue] at e; subst e; exact ⟨h, rfl⟩

/-- All blocks are only read. -/
def allRo (l : List Blk) : Bool := l.all fun
  | .ro _ | .dead => true
  | _ => false

theorem allRo_own {μ : Pl} {h : Heap} (e : allRo h.bs = true) {r i : Nat} : ¬ Own μ h r i := by
  rintro ⟨b, x, hb, ho⟩
  have := List.all_eq_true.1 e x (List.mem_of_getElem? hb)
  cases x <;> simp_all [OwnBy]

theorem Step.below {μ μ' : Pl} {h h' : Heap} {w w' : World} (s : Step μ h w μ' h' w') (e : allRo h.bs = true) : Below w.heap.size w w' :=
  ⟨s.os, s.tape, s.output, s.size, fun k hk => (s.same k hk).1 fun _ => allRo_own e⟩

/-- A law that the machine finds true is true in the world, and writes nothing that was there. -/
theorem law_true {P : Program} {C : Cfg} (F : C.Fits P) {n : Nat} {f : FuncId} {args args' : List Value} {h : Heap} {w : World} {μ : Pl} (hro : allRo h.bs = true) (hr : HR μ h w) (hgl : GL C μ h.len)
    (hv : VL (VP μ h.len) args args') (e : isTrue (callR P C n f args h) = true) :
    Calls P f args'.toArray w fun e w' => e = .returned (.bool true) ∧ Below w.heap.size w w' := by
  obtain ⟨h1, e⟩ := isTrue_some e
  refine ((callR_ok F n).calls e hr hgl hv).mono fun en w' hp => ?_
  obtain ⟨μ1, v', rfl, hvp, hs⟩ := hp
  have := hvp.clean rfl
  cases this
  exact ⟨rfl, hs.below hro⟩

end Go.AM

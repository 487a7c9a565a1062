/-
  Hands: what comes of a step: of the set, and of the deed.
  Hands: what comes of each step: the steps that lock.
  Hands: what comes of each step: those that look twice.
  Hands: what comes of each step: those that mark; and of any step.
  Hands: a run, step by step: what was told of each deed, and when the set was so.
  Hands: a run, step by step: what holds at each time of what was told.
  Hands: a run, step by step: the hand that steps.
-/
import Derived.Test.YtejokpfeepbfeaaHaC
set_option linter.unusedSimpArgs false
set_option linter.unusedVariables false
set_option linter.unnecessarySimpa false
namespace Go.Ha

/-- The state behind a step, but for the time. -/
def post (S : Sys) (w : Nat) (kd k : Int) : Sys := if (act S w kd k).2 then endS (act S w kd k).1 w else (act S w kd k).1

section
variable (S : Sys)
@[simp] theorem lockN_next (i k : Nat) (b : Bool) : ((S.lockN i b).nodes k).next = (S.nodes k).next := by simp only [Sys.lockN, Sys.setN, setF]; split <;> simp_all
@[simp] theorem lockN_mark (i k : Nat) (b : Bool) : ((S.lockN i b).nodes k).mark = (S.nodes k).mark := by simp only [Sys.lockN, Sys.setN, setF]; split <;> simp_all
@[simp] theorem lockN_key (i k : Nat) (b : Bool) : ((S.lockN i b).nodes k).key = (S.nodes k).key := by simp only [Sys.lockN, Sys.setN, setF]; split <;> simp_all
@[simp] theorem lockN_lock (i k : Nat) (b : Bool) : ((S.lockN i b).nodes k).lock = if k = i then b else (S.nodes k).lock := by simp only [Sys.lockN, Sys.setN, setF]; split <;> simp_all
@[simp] theorem markN_next (i k : Nat) (b : Bool) : ((S.markN i b).nodes k).next = (S.nodes k).next := by simp only [Sys.markN, Sys.setN, setF]; split <;> simp_all
@[simp] theorem markN_mark (i k : Nat) (b : Bool) : ((S.markN i b).nodes k).mark = if k = i then b else (S.nodes k).mark := by simp only [Sys.markN, Sys.setN, setF]; split <;> simp_all
@[simp] theorem markN_key (i k : Nat) (b : Bool) : ((S.markN i b).nodes k).key = (S.nodes k).key := by simp only [Sys.markN, Sys.setN, setF]; split <;> simp_all
@[simp] theorem markN_lock (i k : Nat) (b : Bool) : ((S.markN i b).nodes k).lock = (S.nodes k).lock := by simp only [Sys.markN, Sys.setN, setF]; split <;> simp_all
@[simp] theorem nextN_next (i k m : Nat) : ((S.nextN i m).nodes k).next = if k = i then some m else (S.nodes k).next := by simp only [Sys.nextN, Sys.setN, setF]; split <;> simp_all
@[simp] theorem nextN_mark (i k m : Nat) : ((S.nextN i m).nodes k).mark = (S.nodes k).mark := by simp only [Sys.nextN, Sys.setN, setF]; split <;> simp_all
@[simp] theorem nextN_key (i k m : Nat) : ((S.nextN i m).nodes k).key = (S.nodes k).key := by simp only [Sys.nextN, Sys.setN, setF]; split <;> simp_all
@[simp] theorem nextN_lock (i k m : Nat) : ((S.nextN i m).nodes k).lock = (S.nodes k).lock := by simp only [Sys.nextN, Sys.setN, setF]; split <;> simp_all

/-- p's next is o. -/
def Sys.outN (S : Sys) (p : Nat) (o : Option Nat) : Sys := S.setN p { S.nodes p with next := o }
@[simp] theorem outN_next (i k : Nat) (o : Option Nat) : ((S.outN i o).nodes k).next = if k = i then o else (S.nodes k).next := by simp only [Sys.outN, Sys.setN, setF]; split <;> simp_all
@[simp] theorem outN_mark (i k : Nat) (o : Option Nat) : ((S.outN i o).nodes k).mark = (S.nodes k).mark := by simp only [Sys.outN, Sys.setN, setF]; split <;> simp_all
@[simp] theorem outN_key (i k : Nat) (o : Option Nat) : ((S.outN i o).nodes k).key = (S.nodes k).key := by simp only [Sys.outN, Sys.setN, setF]; split <;> simp_all
@[simp] theorem outN_lock (i k : Nat) (o : Option Nat) : ((S.outN i o).nodes k).lock = (S.nodes k).lock := by simp only [Sys.outN, Sys.setN, setF]; split <;> simp_all

/-- A new bead behind p. -/
def Sys.insN (S : Sys) (p c : Nat) (k : Int) : Sys := (S.add ⟨k, some c, false, false⟩).nextN p S.nn
theorem insN_new {p c : Nat} {k : Int} (hp : p < S.nn) : (S.insN p c k).nodes S.nn = ⟨k, some c, false, false⟩ := by
  simp only [Sys.insN, Sys.nextN, Sys.setN, Sys.add]; rw [setF_ne _ _ (by omega)]; simp
theorem insN_old {p c : Nat} {k : Int} {i : Nat} (hi : i < S.nn) : (S.insN p c k).nodes i = if i = p then { S.nodes i with next := some S.nn } else S.nodes i := by
  simp only [Sys.insN, Sys.nextN, Sys.setN, Sys.add, setF]
  split
  · rename_i h; subst h; rw [if_neg (by omega)]
  · rw [if_neg (by omega)]
theorem insN_mark {p c : Nat} {k : Int} {i : Nat} (hi : i < S.nn) : ((S.insN p c k).nodes i).mark = (S.nodes i).mark := by rw [insN_old S hi]; split <;> rfl
theorem insN_lock {p c : Nat} {k : Int} {i : Nat} (hi : i < S.nn) : ((S.insN p c k).nodes i).lock = (S.nodes i).lock := by rw [insN_old S hi]; split <;> rfl
theorem insN_next {p c : Nat} {k : Int} {i : Nat} (hi : i < S.nn) : ((S.insN p c k).nodes i).next = if i = p then some S.nn else (S.nodes i).next := by rw [insN_old S hi]; split <;> rfl
theorem insN_nn (p c : Nat) (k : Int) : (S.insN p c k).nn = S.nn + 1 := rfl

@[simp] theorem setH_nodes (j : Nat) (x : Hd) : (S.setH j x).nodes = S.nodes := rfl
@[simp] theorem setH_nn (j : Nat) (x : Hd) : (S.setH j x).nn = S.nn := rfl
@[simp] theorem endS_nodes (w : Nat) : (endS S w).nodes = S.nodes := rfl
@[simp] theorem endS_nn (w : Nat) : (endS S w).nn = S.nn := rfl
theorem endS_nh (w : Nat) : (endS S w).nh = S.nh := rfl
theorem endS_algo (w : Nat) : (endS S w).algo = S.algo := rfl
theorem endS_st (w : Nat) : ((endS S w).hands w).st = none := by unfold endS; simp
theorem endS_others (w j : Nat) (h : j ≠ w) : (endS S w).hands j = S.hands j := by unfold endS; exact setF_ne _ _ h
end

/-- What comes of a step of hand w at its deed (kd, k). -/
inductive Came (S S' : Sys) (w : Nat) (kd k : Int) (s : St) (b : Bool) (x' : Hd) : Prop
  | on (hb : b = false) (hs : s ≠ .z5 ∧ s ≠ .m3) (hs' : x'.st ≠ some .z5 ∧ x'.st ≠ some .m3) (h : ∀ k', Has S' k' ↔ Has S k')
  | pend (hb : b = false) (hs : s ≠ .z5 ∧ s ≠ .m3) (hs' : x'.st = some .z5 ∨ x'.st = some .m3) (hk : kd = 2) (hi : x'.is = true) (h0 : Has S k) (h1 : ¬ Has S' k) (h : ∀ k', k' ≠ k → (Has S' k' ↔ Has S k'))
  | drop (hb : b = true) (hs : s = .z5 ∨ s = .m3) (hk : kd = 2) (hi : x'.is = true) (h : ∀ k', Has S' k' ↔ Has S k')
  | add (hb : b = true) (hs : s ≠ .z5 ∧ s ≠ .m3) (hk : kd = 1) (hi : x'.is = true) (h0 : ¬ Has S k) (h1 : Has S' k) (h : ∀ k', k' ≠ k → (Has S' k' ↔ Has S k'))
  | cut (hb : b = true) (hs : s ≠ .z5 ∧ s ≠ .m3) (hk : kd = 2) (hi : x'.is = true) (h0 : Has S k) (h1 : ¬ Has S' k) (h : ∀ k', k' ≠ k → (Has S' k' ↔ Has S k'))
  | now (hb : b = true) (hs : s ≠ .z5 ∧ s ≠ .m3) (h : ∀ k', Has S' k' ↔ Has S k') (ha : (kd = 1 ∧ x'.is = false ∧ Has S k) ∨ (kd = 2 ∧ x'.is = false ∧ ¬ Has S k) ∨ (kd = 3 ∧ (x'.is = true ↔ Has S k)))
  | past (hb : b = true) (hs : s = .z1 ∨ s = .m1) (h : ∀ k', Has S' k' ↔ Has S k') (hk : kd = 2 ∨ kd = 3) (hi : x'.is = false) (hc : ∀ c, (S.hands w).c = some c → ¬ ∃ i, i < S.nn ∧ (S.nodes i).mark = false ∧ (S.nodes i).key = k ∧ Reach S c i)

/-- All of a step. -/
structure Did (S S' : Sys) (w : Nat) (kd k : Int) (s : St) (b : Bool) (x' : Hd) : Prop where
  inv : AInv S'
  n : NStep S S'
  came : Came S S' w kd k s b x'

/-- What a step starts from. -/
structure From (S : Sys) (w : Nat) (kd k : Int) (s : St) : Prop where
  I : Inv S
  A : AInv S
  lt : w < S.nh
  st : (S.hands w).st = some s
  deed : (S.hands w).prog[(S.hands w).pos]? = some (kd, k)

section
variable {S : Sys} {w : Nat} {kd k : Int} {s : St}

theorem From.ok (F : From S w kd k s) : DeedOk (kd, k) := (F.I.hands w F.lt).deeds _ (List.mem_of_getElem? F.deed)
theorem From.at' (F : From S w kd k s) : At S (S.hands w) s kd k := by
  obtain ⟨kd', k', h1, h2⟩ := (F.I.hands w F.lt).at' s F.st
  rw [F.deed] at h1
  simp only [Option.some.injEq, Prod.mk.injEq] at h1
  obtain ⟨rfl, rfl⟩ := h1
  exact h2

/-- A hand goes on, and nothing else is written. -/
theorem From.quiet (F : From S w kd k s) (x : Hd) (hs : s ≠ .z5 ∧ s ≠ .m3) (hs' : ∀ t, x.st = some t → t ≠ .z5 ∧ t ≠ .m3) (hh : holds x = holds (S.hands w))
    (h12 : ∀ t, x.st = some t → t = .l1 ∨ t = .l2 → ∀ p c, x.p = some p → x.c = some c → p < S.nn ∧ (S.nodes p).mark = false ∧ (S.nodes p).next = some c) : Did S (S.setH w x) w kd k s false x := by
  have ho : ∀ j, j ≠ w → (S.setH w x).hands j = S.hands j := fun j hj => setF_ne _ _ hj
  have hw : (S.setH w x).hands w = x := hands_setH _ _ _
  have h : ∀ i, i < S.nn → ((S.setH w x).nodes i).next = (S.nodes i).next ∧ ((S.setH w x).nodes i).mark = (S.nodes i).mark := fun i _ => ⟨rfl, rfl⟩
  refine ⟨F.A.same F.I.nodes F.I (.setH S w x) F.lt rfl rfl ho h (F.A.lk.quiet F.lt rfl (Nat.le_refl _) ho (by rw [hw]; exact hh) (fun _ _ => rfl) (fun i h1 h2 => by simp at h2; omega)) (by rw [F.st]; intro e; simp at e; exact hs.1 e) (by rw [hw]; exact hs') (by rw [hw]; exact h12), .same rfl h, .on rfl hs ?_ (Has.same rfl (.setH S w x) fun _ _ => rfl)⟩
  constructor
  · intro e; exact (hs' _ e).1 rfl
  · intro e; exact (hs' _ e).2 rfl

/-- A hand that holds nothing ends its deed, and nothing else is written. -/
theorem From.over (F : From S w kd k s) (x : Hd) (hs : s ≠ .z5 ∧ s ≠ .m3) (hh : holds (S.hands w) = [])
    (hc : (∀ k', Has (endS (S.setH w x) w) k' ↔ Has S k') → Came S (endS (S.setH w x) w) w kd k s true x) : Did S (endS (S.setH w x) w) w kd k s true x := by
  have ho : ∀ j, j ≠ w → (endS (S.setH w x) w).hands j = S.hands j := fun j hj => (endS_others _ _ _ hj).trans (setF_ne _ _ hj)
  have hw : ((endS (S.setH w x) w).hands w).st = none := endS_st _ _
  have h : ∀ i, i < S.nn → ((endS (S.setH w x) w).nodes i).next = (S.nodes i).next ∧ ((endS (S.setH w x) w).nodes i).mark = (S.nodes i).mark := fun i _ => ⟨rfl, rfl⟩
  have g : Grow S (endS (S.setH w x) w) := ⟨rfl, Nat.le_refl _, fun _ _ => rfl⟩
  have hh' : holds ((endS (S.setH w x) w).hands w) = holds (S.hands w) := by rw [hh]; unfold holds; rw [hw]
  refine ⟨F.A.same F.I.nodes F.I g F.lt rfl rfl ho h (F.A.lk.quiet F.lt rfl (Nat.le_refl _) ho hh' (fun _ _ => rfl) (fun i h1 h2 => by simp at h2; omega)) (by rw [F.st]; intro e; simp at e; exact hs.1 e) (by rw [hw]; intro t e; simp at e) (by rw [hw]; intro t e; simp at e), .same rfl h, hc (Has.same rfl g fun _ _ => rfl)⟩
end
end Go.Ha

namespace Go.Ha

section
variable {S : Sys} {w : Nat} {kd k : Int} {s : St}

/-- A lock is taken. -/
theorem From.take (F : From S w kd k s) (x : Hd) {n : Nat} (hn : n < S.nn) (hf : (S.nodes n).lock = false) (hs : s ≠ .z5 ∧ s ≠ .m3) (hs' : ∀ t, x.st = some t → t ≠ .z5 ∧ t ≠ .m3) (hh : ∀ i, i ∈ holds x ↔ (i = n ∨ i ∈ holds (S.hands w)))
    (h12 : ∀ t, x.st = some t → t = .l1 ∨ t = .l2 → ∀ p c, x.p = some p → x.c = some c → p < S.nn ∧ (S.nodes p).mark = false ∧ (S.nodes p).next = some c) : Did S ((S.lockN n true).setH w x) w kd k s false x := by
  have ho : ∀ j, j ≠ w → ((S.lockN n true).setH w x).hands j = S.hands j := fun j hj => setF_ne _ _ hj
  have hw : ((S.lockN n true).setH w x).hands w = x := hands_setH _ _ _
  have g : Grow S ((S.lockN n true).setH w x) := (Grow.lockN S n true).trans (.setH _ w x)
  have h : ∀ i, i < S.nn → (((S.lockN n true).setH w x).nodes i).next = (S.nodes i).next ∧ (((S.lockN n true).setH w x).nodes i).mark = (S.nodes i).mark := fun i _ => ⟨by simp, by simp⟩
  refine ⟨F.A.same F.I.nodes F.I g F.lt rfl rfl ho h (F.A.lk.take F.lt rfl rfl ho hn hf (by rw [hw]; exact hh) (fun i hi => by simp [hi]) (by simp)) (by rw [F.st]; intro e; simp at e; exact hs.1 e) (by rw [hw]; exact hs') (by rw [hw]; exact h12), .same rfl h, .on rfl hs ?_ (Has.same rfl g fun _ _ => by simp)⟩
  constructor
  · intro e; exact (hs' _ e).1 rfl
  · intro e; exact (hs' _ e).2 rfl

theorem AInv.head (A : AInv S) (N : NodesOk S) : (S.nodes 0).mark = false := by
  cases h : (S.nodes 0).mark with
  | false => rfl
  | true => have := A.low 0 N.first h; rw [N.head] at this; omega

theorem did_l0 (F : From S w kd k .l0) : Did S (post S w kd k) w kd k .l0 (act S w kd k).2 ((act S w kd k).1.hands w) := by
  have hs := F.st
  cases hl : (S.nodes 0).lock with
  | true =>
    have e : act S w kd k = (S, false) := by simp only [act, hs]; rw [if_pos hl]
    simp only [post, e, Bool.false_eq_true, if_false]
    have := F.quiet (S.hands w) (by simp) (by rw [hs]; intro t e; simp only [Option.some.injEq] at e; subst e; simp) rfl (by rw [hs]; intro t e h; simp only [Option.some.injEq] at e; subst e; simp at h)
    have e2 : S.setH w (S.hands w) = S := by
      simp only [Sys.setH]; congr 1; funext i; simp only [setF]; split
      · rename_i h; rw [h]
      · rfl
    rw [e2] at this; exact this
  | false =>
    have e : act S w kd k = ((S.lockN 0 true).setH w { S.hands w with p := some 0, c := (S.nodes 0).next, st := some .l1 }, false) := by simp only [act, hs]; rw [if_neg (by rw [hl]; simp)]
    simp only [post, e, Bool.false_eq_true, if_false, hands_setH]
    refine F.take _ F.I.nodes.first hl (by simp) (by intro t e; simp only [Option.some.injEq] at e; subst e; simp) (by intro i; unfold holds; rw [hs]; simp) ?_
    intro t _ _ p c hp hc
    simp only [Option.some.injEq] at hp; subst hp
    exact ⟨F.I.nodes.first, F.A.head F.I.nodes, hc⟩

theorem setH_self (S : Sys) (w : Nat) : S.setH w (S.hands w) = S := by
  simp only [Sys.setH]; congr 1; funext i; simp only [setF]; split
  · rename_i h; rw [h]
  · rfl

/-- A hand waits. -/
theorem From.wait (F : From S w kd k s) (hs : s ≠ .z5 ∧ s ≠ .m3) : Did S S w kd k s false (S.hands w) := by
  have := F.quiet (S.hands w) hs (by rw [F.st]; intro t e; simp only [Option.some.injEq] at e; subst e; exact hs) rfl (by
    rw [F.st]; intro t e h p c hp hc; simp only [Option.some.injEq] at e; subst e
    have := F.A.l12 w F.lt _ F.st h p c hp hc
    obtain ⟨p', c', e1, e2, e3, e4⟩ := AInv.places F.I F.lt F.st (by rcases h with rfl | rfl <;> rfl)
    rw [e1] at hp; simp only [Option.some.injEq] at hp; subst hp
    exact ⟨e3, this⟩)
  rw [setH_self] at this; exact this

theorem did_l1 (F : From S w kd k .l1) : Did S (post S w kd k) w kd k .l1 (act S w kd k).2 ((act S w kd k).1.hands w) := by
  have hs := F.st
  obtain ⟨p, c, h1, h2, h3, h4, h5, h6, h7⟩ := F.at'.on rfl
  cases hl : (S.nodes c).lock with
  | true =>
    have e : act S w kd k = (S, false) := by simp only [act, hs, h2, Option.getD_some]; rw [if_pos hl]
    simp only [post, e, Bool.false_eq_true, if_false]
    exact F.wait (by simp)
  | false =>
    have e : act S w kd k = ((S.lockN c true).setH w { S.hands w with st := some .l2 }, false) := by simp only [act, hs, h2, Option.getD_some]; rw [if_neg (by rw [hl]; simp)]
    simp only [post, e, Bool.false_eq_true, if_false, hands_setH]
    refine F.take _ h4 hl (by simp) (by intro t e; simp only [Option.some.injEq] at e; subst e; simp) (by intro i; unfold holds; rw [hs]; simp [h1, h2]; exact Or.comm) ?_
    intro t _ _ p' c' hp hc
    simp only [h1, h2, Option.some.injEq] at hp hc; subst hp; subst hc
    exact ⟨h3, F.A.l12 w F.lt _ hs (.inl rfl) _ _ h1 h2⟩

/-- The lock of what is behind goes; the hand goes on. -/
theorem did_on (F : From S w kd k .l2) {p c : Nat} (h1 : (S.hands w).p = some p) (h2 : (S.hands w).c = some c) (h3 : p < S.nn) (h4 : c < S.nn) (hpc : p ≠ c) (x : Hd) (hx : x.st = some .l1 ∧ x.p = some c ∧ x.c = (S.nodes c).next) : Did S ((S.lockN p false).setH w x) w kd k .l2 false x := by
  have hs := F.st
  have ho : ∀ j, j ≠ w → ((S.lockN p false).setH w x).hands j = S.hands j := fun j hj => setF_ne _ _ hj
  have hw : ((S.lockN p false).setH w x).hands w = x := hands_setH _ _ _
  have g : Grow S ((S.lockN p false).setH w x) := (Grow.lockN S p false).trans (.setH _ w x)
  have h : ∀ i, i < S.nn → (((S.lockN p false).setH w x).nodes i).next = (S.nodes i).next ∧ (((S.lockN p false).setH w x).nodes i).mark = (S.nodes i).mark := fun i _ => ⟨by simp, by simp⟩
  have hx' : holds x = [c] := by unfold holds; rw [hx.1, hx.2.1]; rfl
  have hold : holds (S.hands w) = [p, c] := by unfold holds; rw [hs, h1, h2]; rfl
  obtain ⟨a, b⟩ := F.A.l12 w F.lt _ hs (.inr rfl) _ _ h1 h2
  have halgo : S.algo = 1 := F.at'.algo
  have mc : (S.nodes c).mark = false := F.A.l halgo p h3 a c b
  have lk : LInv ((S.lockN p false).setH w x) := by
    refine F.A.lk.free F.lt rfl (Nat.le_refl _) ho ?_ ?_
    · intro i hi; rw [hw, hx'] at hi; rw [hold]; simp at hi; simp [hi]
    · intro i hi
      have hi' : i < S.nn := hi
      rw [hw, hx', hold]
      simp only [setH_nodes, lockN_lock, hi', decide_true, Bool.true_and]
      have hl := fun n hn => (F.A.lk.held w F.lt n (by rw [hold]; exact hn)).2
      by_cases e : i = p
      · subst e; simp [hpc]
      · rw [if_neg e]
        by_cases e' : i = c
        · subst e'; simp [e, hl i (by simp)]
        · simp [e, e']
  refine ⟨F.A.same F.I.nodes F.I g F.lt rfl rfl ho h lk (by rw [hs]; simp) (by rw [hw]; intro t e; rw [hx.1] at e; simp only [Option.some.injEq] at e; subst e; simp) ?_, .same rfl h, .on rfl (by simp) (by rw [hx.1]; simp) (Has.same rfl g fun _ _ => by simp)⟩
  rw [hw]; intro t e _ p' c' hp hc
  rw [hx.2.1] at hp; simp only [Option.some.injEq] at hp; subst hp
  rw [hx.2.2] at hc
  exact ⟨h4, mc, hc⟩

/-- Locks of p and c go, no bead is turned. -/
theorem From.freed (F : From S w kd k s) {p c : Nat} (hold : holds (S.hands w) = [p, c]) (h3 : p < S.nn) (h4 : c < S.nn) (hpc : p ≠ c) {S' : Sys} (hnh : S'.nh = S.nh) (hnn : S'.nn = S.nn) (ho : ∀ j, j ≠ w → S'.hands j = S.hands j)
    (hh : holds (S'.hands w) = []) (hl : ∀ i, i < S.nn → (S'.nodes i).lock = if i = c then false else if i = p then false else (S.nodes i).lock) : LInv S' := by
  refine F.A.lk.free F.lt hnh (by omega) ho (by rw [hh]; simp) ?_
  intro i hi
  have hi' : i < S.nn := by omega
  rw [hl i hi', hh, hold]
  simp only [hi', decide_true, Bool.true_and]
  by_cases e : i = c
  · subst e; simp
  · by_cases e' : i = p
    · subst e'; simp [e]
    · simp [e, e']

theorem freed_lock (T : Sys) (p c i : Nat) : (((T.lockN p false).lockN c false).nodes i).lock = if i = c then false else if i = p then false else (T.nodes i).lock := by simp

theorem st_none_holds {x : Hd} (h : x.st = none) : holds x = [] := by unfold holds; rw [h]

theorem did_l2 (F : From S w kd k .l2) : Did S (post S w kd k) w kd k .l2 (act S w kd k).2 ((act S w kd k).1.hands w) := by
  have hs := F.st
  have N := F.I.nodes
  obtain ⟨p, c, h1, h2, h3, h4, h5, h6, h7⟩ := F.at'.on rfl
  have hk9 := F.ok.key.2
  have hk0 := F.ok.key.1
  simp only at hk9 hk0
  have halgo : S.algo = 1 := F.at'.algo
  have hpc : p ≠ c := by rintro rfl; omega
  obtain ⟨mp, np⟩ := F.A.l12 w F.lt _ hs (.inr rfl) _ _ h1 h2
  have mc : (S.nodes c).mark = false := F.A.l halgo p h3 mp c np
  have hold : holds (S.hands w) = [p, c] := by unfold holds; rw [hs, h1, h2]; rfl
  by_cases hlt : (S.nodes c).key < k
  · have e : act S w kd k = ((S.lockN p false).setH w { S.hands w with p := some c, c := (S.nodes c).next, st := some .l1 }, false) := by
      simp only [act, hs, h1, h2, Option.getD_some]; rw [if_pos hlt]
    simp only [post, e, Bool.false_eq_true, if_false, hands_setH]
    exact did_on F h1 h2 h3 h4 hpc _ ⟨rfl, rfl, rfl⟩
  · obtain ⟨is, his⟩ : ∃ is, is = (((S.nodes c).key == k) == (kd != 1)) := ⟨_, rfl⟩
    obtain ⟨x, hx⟩ : ∃ x, x = { S.hands w with is := is } := ⟨_, rfl⟩
    have hkd := F.ok.kind
    simp only at hkd
    by_cases hins : kd = 1 ∧ is = true
    · have hne : (S.nodes c).key ≠ k := by
        have := hins.2; rw [his, hins.1] at this; simpa using this
      obtain ⟨S2, hS2⟩ : ∃ S2, S2 = (((S.insN p c k).lockN p false).lockN c false).setH w x := ⟨_, rfl⟩
      have e : act S w kd k = (S2, true) := by
        simp only [act, hs, h1, h2, Option.getD_some]; rw [if_neg hlt, ← his, if_pos hins, hS2, hx]
        simp only [hs, h1, h2]; rfl
      simp only [post, e, if_true]
      have hx2 : S2.hands w = x := by rw [hS2]; exact hands_setH _ _ _
      rw [hx2]
      have ho : ∀ j, j ≠ w → (endS S2 w).hands j = S.hands j := fun j hj => by rw [endS_others _ _ _ hj, hS2]; exact setF_ne _ _ hj
      have hst : ((endS S2 w).hands w).st = none := endS_st _ _
      have hnn : (endS S2 w).nn = S.nn + 1 := by rw [hS2]; rfl
      have hmark : ∀ i, i < S.nn → ((endS S2 w).nodes i).mark = (S.nodes i).mark := fun i hi => by rw [endS_nodes, hS2]; simp [insN_mark S hi]
      have hnext : ∀ i, i < S.nn → ((endS S2 w).nodes i).next = if i = p then some S.nn else (S.nodes i).next := fun i hi => by rw [endS_nodes, hS2]; simp [insN_next S hi]
      have hkey : ∀ i, i < S.nn → ((endS S2 w).nodes i).key = (S.nodes i).key := fun i hi => by rw [endS_nodes, hS2]; simp [insN_old S hi]; split <;> rfl
      have hnew : ((endS S2 w).nodes S.nn).key = k ∧ ((endS S2 w).nodes S.nn).next = some c ∧ ((endS S2 w).nodes S.nn).mark = false := by rw [endS_nodes, hS2]; simp [insN_new S h3]
      have g : Grow S (endS S2 w) := ⟨by rw [hS2]; rfl, by omega, hkey⟩
      have n : NStep S (endS S2 w) := .ins p c k h3 h4 mp np h5 (by omega) hnn hnew (by rw [hnext p h3, if_pos rfl]) fun i hi => ⟨hmark i hi, fun e => by rw [hnext i hi, if_neg e]⟩
      have hput := Has.put N F.A.ur g h3 mp np h5 (by omega) hnn hnew hmark
      have lk : LInv (endS S2 w) := by
        refine F.A.lk.free F.lt (by rw [hS2]; rfl) (by omega) ho (by rw [st_none_holds hst]; simp) ?_
        intro i hi
        rw [hnn] at hi
        rw [st_none_holds hst, hold, endS_nodes, hS2]
        simp only [setH_nodes, lockN_lock]
        by_cases hi' : i < S.nn
        · rw [insN_lock S hi']
          by_cases e : i = c
          · subst e; simp
          · by_cases e' : i = p
            · subst e'; simp [e]
            · simp [e, e', hi']
        · have : i = S.nn := by omega
          subst this
          rw [insN_new S h3]; simp
      refine ⟨F.A.lock N F.I g halgo n F.lt (by rw [hS2]; rfl) ho lk ?_ hst ?_ ?_, n, .add rfl (by simp) hins.1 (by rw [hx]; exact hins.2) hput.1 hput.2.1 hput.2.2⟩
      · intro i hi hm
        rw [hnn] at hi
        by_cases hi' : i < S.nn
        · rw [hmark i hi'] at hm; rw [hkey i hi']; exact F.A.low i hi' hm
        · have : i = S.nn := by omega
          subst this; rw [hnew.1]; exact hk0
      · intro i hi hnw
        rw [hold] at hnw
        simp only [List.mem_cons, List.not_mem_nil, or_false, not_or] at hnw
        exact ⟨by rw [hnext i hi, if_neg hnw.1], hmark i hi⟩
      · intro i hi hm m hm'
        rw [hnn] at hi
        by_cases hi' : i < S.nn
        · rw [hmark i hi'] at hm
          rw [hnext i hi'] at hm'
          split at hm'
          · simp only [Option.some.injEq] at hm'; subst hm'; exact hnew.2.2
          · rw [hmark m (N.next i hi' m hm').1]; exact F.A.l halgo i hi' hm m hm'
        · have : i = S.nn := by omega
          subst this; rw [hnew.2.1] at hm'; simp only [Option.some.injEq] at hm'; subst hm'
          rw [hmark c h4]; exact mc
    · by_cases hcut : kd = 2 ∧ is = true
      · have heq : (S.nodes c).key = k := by
          have := hcut.2; rw [his, hcut.1] at this; simpa using this
        obtain ⟨S2, hS2⟩ : ∃ S2, S2 = ((((S.outN p (S.nodes c).next).markN c true).lockN p false).lockN c false).setH w x := ⟨_, rfl⟩
        have e : act S w kd k = (S2, true) := by
          simp only [act, hs, h1, h2, Option.getD_some]; rw [if_neg hlt, ← his, if_neg hins, if_pos hcut, hS2, hx]
          simp only [hs, h1, h2]; rfl
        simp only [post, e, if_true]
        have hx2 : S2.hands w = x := by rw [hS2]; exact hands_setH _ _ _
        rw [hx2]
        have ho : ∀ j, j ≠ w → (endS S2 w).hands j = S.hands j := fun j hj => by rw [endS_others _ _ _ hj, hS2]; exact setF_ne _ _ hj
        have hst : ((endS S2 w).hands w).st = none := endS_st _ _
        have hnn : (endS S2 w).nn = S.nn := by rw [hS2]; rfl
        have hmark : ∀ i, ((endS S2 w).nodes i).mark = if i = c then true else (S.nodes i).mark := fun i => by rw [endS_nodes, hS2]; simp
        have hnext : ∀ i, ((endS S2 w).nodes i).next = if i = p then (S.nodes c).next else (S.nodes i).next := fun i => by rw [endS_nodes, hS2]; simp
        have hkey : ∀ i, i < S.nn → ((endS S2 w).nodes i).key = (S.nodes i).key := fun i hi => by rw [endS_nodes, hS2]; simp
        have g : Grow S (endS S2 w) := ⟨by rw [hS2]; rfl, by omega, hkey⟩
        have n : NStep S (endS S2 w) := .cut p c h3 h4 mp np mc hnn (by rw [hnext, if_pos rfl]) (by rw [hmark, if_pos rfl]) fun i hi => ⟨fun e => by rw [hmark, if_neg e], fun e => by rw [hnext, if_neg e]⟩
        have hput := Has.marked N F.A.ur g h4 mc hnn (by rw [hmark, if_pos rfl]) fun i _ e => by rw [hmark, if_neg e]
        rw [heq] at hput
        have lk : LInv (endS S2 w) := F.freed hold h3 h4 hpc (by rw [hS2]; rfl) hnn ho (st_none_holds hst) fun i _ => by rw [endS_nodes, hS2]; simp
        refine ⟨F.A.lock N F.I g halgo n F.lt (by rw [hS2]; rfl) ho lk ?_ hst ?_ ?_, n, .cut rfl (by simp) hcut.1 (by rw [hx]; exact hcut.2) hput.1 hput.2.1 hput.2.2⟩
        · intro i hi hm
          rw [hnn] at hi
          rw [hkey i hi]
          rw [hmark] at hm
          split at hm
          · rename_i e; subst e; omega
          · exact F.A.low i hi hm
        · intro i hi hnw
          rw [hold] at hnw
          simp only [List.mem_cons, List.not_mem_nil, or_false, not_or] at hnw
          exact ⟨by rw [hnext, if_neg hnw.1], by rw [hmark, if_neg hnw.2]⟩
        · intro i hi hm m hm'
          rw [hnn] at hi
          rw [hmark] at hm
          split at hm
          · simp at hm
          · rename_i hic
            rw [hnext] at hm'
            rw [hmark]
            split at hm'
            · rename_i hip; subst hip
              have := N.next c h4 m hm'
              rw [if_neg (by rintro rfl; omega)]
              exact F.A.l halgo c h4 mc m hm'
            · rename_i hip
              rw [if_neg (by rintro rfl; exact hip (F.A.ur.ahead N hi hm hm' h3 mp np))]
              exact F.A.l halgo i hi hm m hm'
      · obtain ⟨S2, hS2⟩ : ∃ S2, S2 = ((S.lockN p false).lockN c false).setH w x := ⟨_, rfl⟩
        have e : act S w kd k = (S2, true) := by
          simp only [act, hs, h1, h2, Option.getD_some]; rw [if_neg hlt, ← his, if_neg hins, if_neg hcut, hS2, hx]
          simp only [hs, h1, h2]; rfl
        simp only [post, e, if_true]
        have hx2 : S2.hands w = x := by rw [hS2]; exact hands_setH _ _ _
        rw [hx2]
        have ho : ∀ j, j ≠ w → (endS S2 w).hands j = S.hands j := fun j hj => by rw [endS_others _ _ _ hj, hS2]; exact setF_ne _ _ hj
        have hst : ((endS S2 w).hands w).st = none := endS_st _ _
        have h : ∀ i, i < S.nn → ((endS S2 w).nodes i).next = (S.nodes i).next ∧ ((endS S2 w).nodes i).mark = (S.nodes i).mark := fun i _ => by rw [endS_nodes, hS2]; simp
        have g : Grow S (endS S2 w) := ⟨by rw [hS2]; rfl, by rw [hS2]; exact Nat.le_refl _, fun i _ => by rw [endS_nodes, hS2]; simp⟩
        have lk : LInv (endS S2 w) := F.freed hold h3 h4 hpc (by rw [hS2]; rfl) (by rw [hS2]; rfl) ho (st_none_holds hst) fun i _ => by rw [endS_nodes, hS2]; simp
        have hsame : ∀ k', Has (endS S2 w) k' ↔ Has S k' := Has.same (by rw [hS2]; rfl) g fun i hi => (h i hi).2
        refine ⟨F.A.same N F.I g F.lt (by rw [hS2]; rfl) (by rw [hS2]; rfl) ho h lk (by rw [hs]; simp) (by rw [hst]; intro t e; simp at e) (by rw [hst]; intro t e; simp at e), .same (by rw [hS2]; rfl) h, .now rfl (by simp) hsame ?_⟩
        have hhas : (S.nodes c).key = k → Has S k := fun e => ⟨c, h4, mc, e⟩
        have hno : (S.nodes c).key ≠ k → ¬ Has S k := fun e => F.A.ur.absent N h3 mp np h5 (by omega) fun e' => absurd e' e
        have hxi : x.is = is := by rw [hx]
        rw [hxi]
        rcases hkd with rfl | rfl | rfl
        · left
          have h0 : is = false := by simpa using hins
          refine ⟨rfl, h0, hhas ?_⟩
          rw [his] at h0; simpa using h0
        · right; left
          have h0 : is = false := by simpa using hcut
          refine ⟨rfl, h0, hno ?_⟩
          rw [his] at h0; simpa using h0
        · right; right
          refine ⟨rfl, ?_⟩
          rw [his]
          by_cases e : (S.nodes c).key = k
          · simp [e, hhas e]
          · simp [e, hno e]
end
end Go.Ha

namespace Go.Ha

section
variable {S : Sys} {w : Nat} {kd k : Int} {s : St}

/-- What is seen of a set by one that has. -/
theorem has_came (F : From S w kd k s) (hs : s = .z1 ∨ s = .m1) {c : Nat} (hc : (S.hands w).c = some c) (h4 : c < S.nn) (hge : ¬ (S.nodes c).key < k) (hk : kd = 3) {S' : Sys} {x : Hd} (hx : x.is = ((S.nodes c).key == k && !(S.nodes c).mark)) (h : ∀ k', Has S' k' ↔ Has S k') : Came S S' w kd k s true x := by
  have hs2 : s ≠ .z5 ∧ s ≠ .m3 := by rcases hs with rfl | rfl <;> simp
  cases hi : x.is with
  | true =>
    rw [hi] at hx
    have hx := hx.symm
    simp only [Bool.and_eq_true, beq_iff_eq, Bool.not_eq_true'] at hx
    exact .now rfl hs2 h (.inr (.inr ⟨hk, by rw [hi]; exact ⟨fun _ => ⟨c, h4, hx.2, hx.1⟩, fun _ => rfl⟩⟩))
  | false =>
    rw [hi] at hx
    refine .past rfl hs h (.inr hk) hi ?_
    intro c' hc' ⟨i, hi, mi, ki, r⟩
    rw [hc] at hc'; simp only [Option.some.injEq] at hc'; subst hc'
    rcases r.key F.I.nodes with e | e
    · subst e; simp [ki, mi] at hx
    · omega

theorem did_z0 (F : From S w kd k .z0) : Did S (post S w kd k) w kd k .z0 (act S w kd k).2 ((act S w kd k).1.hands w) := by
  have hs := F.st
  have e : act S w kd k = (S.setH w { S.hands w with p := some 0, c := (S.nodes 0).next, st := some .z1 }, false) := by simp only [act, hs]
  simp only [post, e, Bool.false_eq_true, if_false, hands_setH]
  refine F.quiet _ (by simp) (by intro t e; simp only [Option.some.injEq] at e; subst e; simp) (by unfold holds; rw [hs]) (by intro t e h; simp only [Option.some.injEq] at e; subst e; simp at h)

theorem did_first (F : From S w kd k s) (hs : s = .z1 ∨ s = .z2) {p : Nat} (h1 : (S.hands w).p = some p) (h3 : p < S.nn) : Did S (first S w p) w kd k s false ((first S w p).hands w) := by
  have hst := F.st
  have hs2 : s ≠ .z5 ∧ s ≠ .m3 := by rcases hs with rfl | rfl <;> simp
  have hold : holds (S.hands w) = [] := by unfold holds; rw [hst]; rcases hs with rfl | rfl <;> rfl
  cases hl : (S.nodes p).lock with
  | true =>
    have e : first S w p = S.setH w { S.hands w with st := some .z2 } := by unfold first; rw [if_pos hl]
    rw [e, hands_setH]
    exact F.quiet _ hs2 (by intro t e; simp only [Option.some.injEq] at e; subst e; simp) (by rw [hold]; rfl) (by intro t e h; simp only [Option.some.injEq] at e; subst e; simp at h)
  | false =>
    have e : first S w p = (S.lockN p true).setH w { S.hands w with st := some .z3 } := by unfold first; rw [if_neg (by rw [hl]; simp)]
    rw [e, hands_setH]
    exact F.take _ h3 hl hs2 (by intro t e; simp only [Option.some.injEq] at e; subst e; simp) (by intro i; rw [hold]; unfold holds; simp [h1]) (by intro t e h; simp only [Option.some.injEq] at e; subst e; simp at h)

theorem did_z1 (F : From S w kd k .z1) : Did S (post S w kd k) w kd k .z1 (act S w kd k).2 ((act S w kd k).1.hands w) := by
  have hs := F.st
  obtain ⟨p, c, h1, h2, h3, h4, h5, h6, h7⟩ := F.at'.on rfl
  by_cases hlt : (S.nodes c).key < k
  · have e : act S w kd k = (S.setH w { S.hands w with p := some c, c := (S.nodes c).next }, false) := by
      simp only [act, hs, h1, h2, Option.getD_some]; rw [if_pos hlt]
    simp only [post, e, Bool.false_eq_true, if_false, hands_setH]
    exact F.quiet _ (by simp) (by rw [hs]; intro t e; simp only [Option.some.injEq] at e; subst e; simp) (by unfold holds; simp [hs]) (by rw [hs]; intro t e h; simp only [Option.some.injEq] at e; subst e; simp at h)
  · by_cases h3k : kd = 3
    · have e : act S w kd k = (S.setH w { S.hands w with is := (S.nodes c).key == k && !(S.nodes c).mark }, true) := by
        simp only [act, hs, h1, h2, Option.getD_some]; rw [if_neg hlt, if_pos h3k]
      simp only [post, e, if_true, hands_setH]
      exact F.over _ (by simp) (by unfold holds; simp [hs]) fun h => has_came F (.inl rfl) h2 h4 hlt h3k rfl h
    · have e : act S w kd k = (first S w p, false) := by
        simp only [act, hs, h1, h2, Option.getD_some]; rw [if_neg hlt, if_neg h3k]
      simp only [post, e, Bool.false_eq_true, if_false]
      exact did_first F (.inl rfl) h1 h3

theorem did_z2 (F : From S w kd k .z2) : Did S (post S w kd k) w kd k .z2 (act S w kd k).2 ((act S w kd k).1.hands w) := by
  have hs := F.st
  obtain ⟨p, c, h1, h2, h3, h4, h5, h6, h7⟩ := F.at'.on rfl
  have e : act S w kd k = (first S w p, false) := by simp only [act, hs, h1, Option.getD_some]
  simp only [post, e, Bool.false_eq_true, if_false]
  exact did_first F (.inr rfl) h1 h3

theorem did_z3 (F : From S w kd k .z3) : Did S (post S w kd k) w kd k .z3 (act S w kd k).2 ((act S w kd k).1.hands w) := by
  have hs := F.st
  obtain ⟨p, c, h1, h2, h3, h4, h5, h6, h7⟩ := F.at'.on rfl
  cases hl : (S.nodes c).lock with
  | true =>
    have e : act S w kd k = (S, false) := by simp only [act, hs, h2, Option.getD_some]; rw [if_pos hl]
    simp only [post, e, Bool.false_eq_true, if_false]
    exact F.wait (by simp)
  | false =>
    have e : act S w kd k = ((S.lockN c true).setH w { S.hands w with st := some .z4 }, false) := by simp only [act, hs, h2, Option.getD_some]; rw [if_neg (by rw [hl]; simp)]
    simp only [post, e, Bool.false_eq_true, if_false, hands_setH]
    exact F.take _ h4 hl (by simp) (by intro t e; simp only [Option.some.injEq] at e; subst e; simp) (by intro i; unfold holds; rw [hs]; simp [h1, h2]; exact Or.comm) (by intro t e h; simp only [Option.some.injEq] at e; subst e; simp at h)

/-- Locks go, the deed is done, no bead is turned. -/
theorem From.letGo (F : From S w kd k s) {p c : Nat} (hs : s ≠ .z5 ∧ s ≠ .m3) (hold : holds (S.hands w) = [p, c]) (h3 : p < S.nn) (h4 : c < S.nn) (hpc : p ≠ c) (x : Hd)
    (hc : (∀ k', Has (endS (((S.lockN p false).lockN c false).setH w x) w) k' ↔ Has S k') → Came S (endS (((S.lockN p false).lockN c false).setH w x) w) w kd k s true x) : Did S (endS (((S.lockN p false).lockN c false).setH w x) w) w kd k s true x := by
  obtain ⟨S2, hS2⟩ : ∃ S2, S2 = ((S.lockN p false).lockN c false).setH w x := ⟨_, rfl⟩
  rw [← hS2] at hc ⊢
  have ho : ∀ j, j ≠ w → (endS S2 w).hands j = S.hands j := fun j hj => by rw [endS_others _ _ _ hj, hS2]; exact setF_ne _ _ hj
  have hst : ((endS S2 w).hands w).st = none := endS_st _ _
  have h : ∀ i, i < S.nn → ((endS S2 w).nodes i).next = (S.nodes i).next ∧ ((endS S2 w).nodes i).mark = (S.nodes i).mark := fun i _ => by rw [endS_nodes, hS2]; simp
  have g : Grow S (endS S2 w) := ⟨by rw [hS2]; rfl, by rw [hS2]; exact Nat.le_refl _, fun i _ => by rw [endS_nodes, hS2]; simp⟩
  have lk : LInv (endS S2 w) := F.freed hold h3 h4 hpc (by rw [hS2]; rfl) (by rw [hS2]; rfl) ho (st_none_holds hst) fun i _ => by rw [endS_nodes, hS2]; simp
  exact ⟨F.A.same F.I.nodes F.I g F.lt (by rw [hS2]; rfl) (by rw [hS2]; rfl) ho h lk (by rw [F.st]; intro e; simp at e; exact hs.1 e) (by rw [hst]; intro t e; simp at e) (by rw [hst]; intro t e; simp at e), .same (by rw [hS2]; rfl) h,
    hc (Has.same (by rw [hS2]; rfl) g fun i hi => (h i hi).2)⟩

theorem did_z4 (F : From S w kd k .z4) : Did S (post S w kd k) w kd k .z4 (act S w kd k).2 ((act S w kd k).1.hands w) := by
  have hs := F.st
  have N := F.I.nodes
  obtain ⟨p, c, h1, h2, h3, h4, h5, h6, h7⟩ := F.at'.on rfl
  obtain ⟨hk3, hge⟩ : kd ≠ 3 ∧ k ≤ (S.nodes c).key := h7
  have hk9 := F.ok.key.2
  have hk0 := F.ok.key.1
  have hkd := F.ok.kind
  simp only at hk9 hk0 hkd
  have halgo : S.algo = 2 := F.at'.algo
  have hpc : p ≠ c := by rintro rfl; omega
  have hold : holds (S.hands w) = [p, c] := by unfold holds; rw [hs, h1, h2]; rfl
  cases hf : ((S.nodes p).mark || (S.nodes c).mark || !((S.nodes p).next == some c)) with
  | true =>
    have e : act S w kd k = (((S.lockN p false).lockN c false).setH w { S.hands w with st := some .z0 }, false) := by
      simp only [act, hs, h1, h2, Option.getD_some]; rw [if_pos hf]
    simp only [post, e, Bool.false_eq_true, if_false, hands_setH]
    obtain ⟨x, hx⟩ : ∃ x, x = { S.hands w with st := some .z0 } := ⟨_, rfl⟩
    rw [← hx]
    obtain ⟨S2, hS2⟩ : ∃ S2, S2 = ((S.lockN p false).lockN c false).setH w x := ⟨_, rfl⟩
    rw [← hS2]
    have hx2 : S2.hands w = x := by rw [hS2]; exact hands_setH _ _ _
    have ho : ∀ j, j ≠ w → S2.hands j = S.hands j := fun j hj => by rw [hS2]; exact setF_ne _ _ hj
    have h : ∀ i, i < S.nn → (S2.nodes i).next = (S.nodes i).next ∧ (S2.nodes i).mark = (S.nodes i).mark := fun i _ => by rw [hS2]; simp
    have g : Grow S S2 := ⟨by rw [hS2]; rfl, by rw [hS2]; exact Nat.le_refl _, fun i _ => by rw [hS2]; simp⟩
    have hst : x.st = some .z0 := by rw [hx]
    have lk : LInv S2 := F.freed hold h3 h4 hpc (by rw [hS2]; rfl) (by rw [hS2]; rfl) ho (by rw [hx2]; unfold holds; rw [hst]) fun i _ => by rw [hS2]; simp
    exact ⟨F.A.same N F.I g F.lt (by rw [hS2]; rfl) (by rw [hS2]; rfl) ho h lk (by rw [hs]; simp) (by rw [hx2, hst]; intro t e; simp only [Option.some.injEq] at e; subst e; simp) (by rw [hx2, hst]; intro t e h; simp only [Option.some.injEq] at e; subst e; simp at h),
      .same (by rw [hS2]; rfl) h, .on rfl (by simp) (by rw [hst]; simp) (Has.same (by rw [hS2]; rfl) g fun i hi => (h i hi).2)⟩
  | false =>
    have hfn : ¬ ((S.nodes p).mark || (S.nodes c).mark || !((S.nodes p).next == some c)) = true := by rw [hf]; simp
    simp only [Bool.or_eq_false_iff, Bool.not_eq_false', beq_iff_eq] at hf
    obtain ⟨⟨mp, mc⟩, np⟩ := hf
    by_cases hadd : kd = 1
    · by_cases heq : (S.nodes c).key = k
      · have e : act S w kd k = (((S.lockN p false).lockN c false).setH w { S.hands w with is := !((S.nodes c).key == k) }, true) := by
          simp only [act, hs, h1, h2, Option.getD_some]; rw [if_neg hfn, if_pos hadd, if_pos heq]; rfl
        simp only [post, e, if_true, hands_setH]
        refine F.letGo (by simp) hold h3 h4 hpc _ fun h => .now rfl (by simp) h (.inl ⟨hadd, by simp [heq], ⟨c, h4, mc, heq⟩⟩)
      · obtain ⟨x, hx⟩ : ∃ x, x = { S.hands w with is := !((S.nodes c).key == k) } := ⟨_, rfl⟩
        obtain ⟨S2, hS2⟩ : ∃ S2, S2 = (((S.insN p c k).lockN p false).lockN c false).setH w x := ⟨_, rfl⟩
        have e : act S w kd k = (S2, true) := by
          simp only [act, hs, h1, h2, Option.getD_some]; rw [if_neg hfn, if_pos hadd, if_neg heq, hS2, hx]
          simp only [hs, h1, h2]; rfl
        simp only [post, e, if_true]
        have hx2 : S2.hands w = x := by rw [hS2]; exact hands_setH _ _ _
        rw [hx2]
        have ho : ∀ j, j ≠ w → (endS S2 w).hands j = S.hands j := fun j hj => by rw [endS_others _ _ _ hj, hS2]; exact setF_ne _ _ hj
        have hst : ((endS S2 w).hands w).st = none := endS_st _ _
        have hnn : (endS S2 w).nn = S.nn + 1 := by rw [hS2]; rfl
        have hmark : ∀ i, i < S.nn → ((endS S2 w).nodes i).mark = (S.nodes i).mark := fun i hi => by rw [endS_nodes, hS2]; simp [insN_mark S hi]
        have hnext : ∀ i, i < S.nn → ((endS S2 w).nodes i).next = if i = p then some S.nn else (S.nodes i).next := fun i hi => by rw [endS_nodes, hS2]; simp [insN_next S hi]
        have hkey : ∀ i, i < S.nn → ((endS S2 w).nodes i).key = (S.nodes i).key := fun i hi => by rw [endS_nodes, hS2]; simp [insN_old S hi]; split <;> rfl
        have hnew : ((endS S2 w).nodes S.nn).key = k ∧ ((endS S2 w).nodes S.nn).next = some c ∧ ((endS S2 w).nodes S.nn).mark = false := by rw [endS_nodes, hS2]; simp [insN_new S h3]
        have g : Grow S (endS S2 w) := ⟨by rw [hS2]; rfl, by omega, hkey⟩
        have n : NStep S (endS S2 w) := .ins p c k h3 h4 mp np h5 (by omega) hnn hnew (by rw [hnext p h3, if_pos rfl]) fun i hi => ⟨hmark i hi, fun e => by rw [hnext i hi, if_neg e]⟩
        have hput := Has.put N F.A.ur g h3 mp np h5 (by omega) hnn hnew hmark
        have lk : LInv (endS S2 w) := by
          refine F.A.lk.free F.lt (by rw [hS2]; rfl) (by omega) ho (by rw [st_none_holds hst]; simp) ?_
          intro i hi
          rw [hnn] at hi
          rw [st_none_holds hst, hold, endS_nodes, hS2]
          simp only [setH_nodes, lockN_lock]
          by_cases hi' : i < S.nn
          · rw [insN_lock S hi']
            by_cases e : i = c
            · subst e; simp
            · by_cases e' : i = p
              · subst e'; simp [e]
              · simp [e, e', hi']
          · have : i = S.nn := by omega
            subst this
            rw [insN_new S h3]; simp
        refine ⟨F.A.lazy N F.I g halgo n F.lt (by rw [hS2]; rfl) ho lk ?_ (by rw [hst]; intro t e; simp at e) (by rw [hst]; intro t e; simp at e) ?_ ?_ ?_, n, .add rfl (by simp) hadd (by rw [hx]; simp [heq]) hput.1 hput.2.1 hput.2.2⟩
        · intro i hi hm
          rw [hnn] at hi
          by_cases hi' : i < S.nn
          · rw [hmark i hi'] at hm; rw [hkey i hi']; exact F.A.low i hi' hm
          · have : i = S.nn := by omega
            subst this; rw [hnew.1]; exact hk0
        · intro i hi hnw
          rw [hold] at hnw
          simp only [List.mem_cons, List.not_mem_nil, or_false, not_or] at hnw
          exact ⟨by rw [hnext i hi, if_neg hnw.1], hmark i hi⟩
        · intro j hj hjw hz c' m hc' hm
          obtain ⟨p', c'', e1, e2, e3, e4⟩ := AInv.places F.I hj hz rfl
          rw [e2] at hc'; simp only [Option.some.injEq] at hc'; subst hc'
          rw [hmark m (N.next _ e4 m hm).1]
          exact (F.A.z5 j hj hz _ _ e1 e2).2.2 m hm
        · intro i hi hm m hm' hmm
          rw [hnn] at hi
          by_cases hi' : i < S.nn
          · rw [hmark i hi'] at hm
            rw [hnext i hi'] at hm'
            split at hm'
            · simp only [Option.some.injEq] at hm'; subst hm'; rw [hnew.2.2] at hmm; simp at hmm
            · rw [hmark m (N.next i hi' m hm').1] at hmm
              obtain ⟨j, hj, a, b, d⟩ := F.A.z halgo i hi' hm m hm' hmm
              have e : j ≠ w := by rintro rfl; rw [hs] at a; simp at a
              exact ⟨j, by rw [hS2]; exact hj, by rw [ho j e]; exact a, by rw [ho j e]; exact b, by rw [ho j e]; exact d⟩
          · have : i = S.nn := by omega
            subst this; rw [hnew.2.1] at hm'; simp only [Option.some.injEq] at hm'; subst hm'
            rw [hmark c h4, mc] at hmm; simp at hmm
    · have hk2 : kd = 2 := by omega
      by_cases heq : (S.nodes c).key = k
      · obtain ⟨x, hx⟩ : ∃ x, x = { S.hands w with is := true, st := some .z5 } := ⟨_, rfl⟩
        obtain ⟨S2, hS2⟩ : ∃ S2, S2 = (S.markN c true).setH w x := ⟨_, rfl⟩
        have e : act S w kd k = (S2, false) := by
          simp only [act, hs, h1, h2, Option.getD_some]; rw [if_neg hfn, if_neg hadd, if_pos heq, hS2, hx]
          simp only [h1, h2]
        simp only [post, e, Bool.false_eq_true, if_false]
        have hx2 : S2.hands w = x := by rw [hS2]; exact hands_setH _ _ _
        rw [hx2]
        have hst : x.st = some .z5 := by rw [hx]
        have hxp : x.p = some p := by rw [hx]; exact h1
        have hxc : x.c = some c := by rw [hx]; exact h2
        have ho : ∀ j, j ≠ w → S2.hands j = S.hands j := fun j hj => by rw [hS2]; exact setF_ne _ _ hj
        have hnn : S2.nn = S.nn := by rw [hS2]; rfl
        have hmark : ∀ i, (S2.nodes i).mark = if i = c then true else (S.nodes i).mark := fun i => by rw [hS2]; simp
        have hnext : ∀ i, (S2.nodes i).next = (S.nodes i).next := fun i => by rw [hS2]; simp
        have hkey : ∀ i, i < S.nn → (S2.nodes i).key = (S.nodes i).key := fun i hi => by rw [hS2]; simp
        have g : Grow S S2 := ⟨by rw [hS2]; rfl, by omega, hkey⟩
        have n : NStep S S2 := .mark c h4 mc hnn (by rw [hmark, if_pos rfl]) fun i hi => ⟨hnext i, fun e => by rw [hmark, if_neg e]⟩
        have hput := Has.marked N F.A.ur g h4 mc hnn (by rw [hmark, if_pos rfl]) fun i _ e => by rw [hmark, if_neg e]
        rw [heq] at hput
        have lk : LInv S2 := F.A.lk.quiet F.lt (by rw [hS2]; rfl) (by omega) ho (by rw [hx2, hold]; unfold holds; rw [hst, hxp, hxc]; rfl) (fun i _ => by rw [hS2]; simp) (fun i h1 h2 => by omega)
        have behind : ∀ m, (S.nodes c).next = some m → (S.nodes m).mark = false := by
          intro m hm
          cases hmm : (S.nodes m).mark with
          | false => rfl
          | true =>
            obtain ⟨j, hj, a, b, d⟩ := F.A.z halgo c h4 mc m hm hmm
            have hcj : c ∈ holds (S.hands j) := by unfold holds; rw [a]; simp [b]
            have := F.A.lk.one j w hj F.lt c hcj (by rw [hold]; simp)
            subst this; rw [hs] at a; simp at a
        refine ⟨F.A.lazy N F.I g halgo n F.lt (by rw [hS2]; rfl) ho lk ?_ ?_ (by rw [hx2]; intro t e; exact ⟨p, hxp⟩) ?_ ?_ ?_, n, .pend rfl (by simp) (.inl hst) hk2 (by rw [hx]) hput.1 hput.2.1 hput.2.2⟩
        · intro i hi hm
          rw [hnn] at hi
          rw [hkey i hi]
          rw [hmark] at hm
          split at hm
          · rename_i e; subst e; omega
          · exact F.A.low i hi hm
        · rw [hx2]; intro t e
          rw [hst] at e; simp only [Option.some.injEq] at e
          refine ⟨e.symm, by rw [hx], fun p' c' hp hc => ?_⟩
          rw [hxp] at hp; rw [hxc] at hc; simp only [Option.some.injEq] at hp hc; subst hp; subst hc
          refine ⟨by rw [hmark, if_pos rfl], by rw [hmark, if_neg hpc]; exact mp, by rw [hnext]; exact np, fun m hm => ?_⟩
          rw [hnext] at hm
          have := (N.next c h4 m hm).2
          rw [hmark, if_neg (by rintro rfl; omega)]
          exact behind m hm
        · intro i hi hnw
          rw [hold] at hnw
          simp only [List.mem_cons, List.not_mem_nil, or_false, not_or] at hnw
          exact ⟨hnext i, by rw [hmark, if_neg hnw.2]⟩
        · intro j hj hjw hz c' m hc' hm
          obtain ⟨p', c'', e1, e2, e3, e4⟩ := AInv.places F.I hj hz rfl
          rw [hmark, if_neg (by rintro rfl; exact F.A.behind N F.I hj hz hc' hm h3 mp np)]
          rw [e2] at hc'; simp only [Option.some.injEq] at hc'; subst hc'
          exact (F.A.z5 j hj hz _ _ e1 e2).2.2 m hm
        · intro i hi hm m hm' hmm
          rw [hnn] at hi
          rw [hmark] at hm
          split at hm
          · simp at hm
          · rw [hnext] at hm'
            rw [hmark] at hmm
            split at hmm
            · rename_i hic hmc; subst hmc
              have := F.A.ur.ahead N hi hm hm' h3 mp np
              subst this
              exact ⟨w, by rw [hS2]; exact F.lt, by rw [hx2]; exact hst, by rw [hx2]; exact hxp, by rw [hx2]; exact hxc⟩
            · obtain ⟨j, hj, a, b, d⟩ := F.A.z halgo i hi hm m hm' hmm
              have e : j ≠ w := by rintro rfl; rw [hs] at a; simp at a
              exact ⟨j, by rw [hS2]; exact hj, by rw [ho j e]; exact a, by rw [ho j e]; exact b, by rw [ho j e]; exact d⟩
      · have e : act S w kd k = (((S.lockN p false).lockN c false).setH w { S.hands w with is := false }, true) := by
          simp only [act, hs, h1, h2, Option.getD_some]; rw [if_neg hfn, if_neg hadd, if_neg heq]; rfl
        simp only [post, e, if_true, hands_setH]
        exact F.letGo (by simp) hold h3 h4 hpc _ fun h => .now rfl (by simp) h (.inr (.inl ⟨hk2, rfl, F.A.ur.absent N h3 mp np h5 hge fun e' => absurd e' heq⟩))

theorem did_z5 (F : From S w kd k .z5) : Did S (post S w kd k) w kd k .z5 (act S w kd k).2 ((act S w kd k).1.hands w) := by
  have hs := F.st
  have N := F.I.nodes
  obtain ⟨p, c, h1, h2, h3, h4, h5, h6, h7⟩ := F.at'.on rfl
  obtain ⟨hk2, heq⟩ : kd = 2 ∧ (S.nodes c).key = k := h7
  have halgo : S.algo = 2 := F.at'.algo
  have hpc : p ≠ c := by rintro rfl; omega
  have hold : holds (S.hands w) = [p, c] := by unfold holds; rw [hs, h1, h2]; rfl
  obtain ⟨mp, np, hb⟩ := F.A.z5 w F.lt hs _ _ h1 h2
  obtain ⟨his, hmc⟩ := F.A.pend w F.lt _ hs (.inl rfl)
  have mc := hmc c h2
  obtain ⟨S2, hS2⟩ : ∃ S2, S2 = ((S.outN p (S.nodes c).next).lockN p false).lockN c false := ⟨_, rfl⟩
  have e : act S w kd k = (S2, true) := by
    simp only [act, hs, h1, h2, Option.getD_some]; rw [hS2]; rfl
  simp only [post, e, if_true]
  have hx2 : S2.hands w = S.hands w := by rw [hS2]; rfl
  rw [hx2]
  have ho : ∀ j, j ≠ w → (endS S2 w).hands j = S.hands j := fun j hj => by rw [endS_others _ _ _ hj, hS2]; rfl
  have hst : ((endS S2 w).hands w).st = none := endS_st _ _
  have hnn : (endS S2 w).nn = S.nn := by rw [hS2]; rfl
  have hmark : ∀ i, ((endS S2 w).nodes i).mark = (S.nodes i).mark := fun i => by rw [endS_nodes, hS2]; simp
  have hnext : ∀ i, ((endS S2 w).nodes i).next = if i = p then (S.nodes c).next else (S.nodes i).next := fun i => by rw [endS_nodes, hS2]; simp
  have hkey : ∀ i, i < S.nn → ((endS S2 w).nodes i).key = (S.nodes i).key := fun i hi => by rw [endS_nodes, hS2]; simp
  have g : Grow S (endS S2 w) := ⟨by rw [hS2]; rfl, by omega, hkey⟩
  have n : NStep S (endS S2 w) := .unlink p c h3 h4 mp np mc hnn (by rw [hnext, if_pos rfl]) fun i hi => ⟨hmark i, fun e => by rw [hnext, if_neg e]⟩
  have lk : LInv (endS S2 w) := F.freed hold h3 h4 hpc (by rw [hS2]; rfl) hnn ho (st_none_holds hst) fun i _ => by rw [endS_nodes, hS2]; simp
  refine ⟨F.A.lazy N F.I g halgo n F.lt (by rw [hS2]; rfl) ho lk ?_ (by rw [hst]; intro t e; simp at e) (by rw [hst]; intro t e; simp at e) ?_ ?_ ?_, n, .drop rfl (.inl rfl) hk2 his (Has.same hnn g fun i _ => hmark i)⟩
  · intro i hi hm
    rw [hnn] at hi
    rw [hkey i hi]
    rw [hmark] at hm
    exact F.A.low i hi hm
  · intro i hi hnw
    rw [hold] at hnw
    simp only [List.mem_cons, List.not_mem_nil, or_false, not_or] at hnw
    exact ⟨by rw [hnext, if_neg hnw.1], hmark i⟩
  · intro j hj hjw hz c' m hc' hm
    obtain ⟨p', c'', e1, e2, e3, e4⟩ := AInv.places F.I hj hz rfl
    rw [e2] at hc'; simp only [Option.some.injEq] at hc'; subst hc'
    rw [hmark]
    exact (F.A.z5 j hj hz _ _ e1 e2).2.2 m hm
  · intro i hi hm m hm' hmm
    rw [hnn] at hi
    rw [hmark] at hm hmm
    rw [hnext] at hm'
    split at hm'
    · rw [hb m hm'] at hmm; simp at hmm
    · rename_i hip
      obtain ⟨j, hj, a, b, d⟩ := F.A.z halgo i hi hm m hm' hmm
      have e : j ≠ w := by rintro rfl; rw [h1] at b; simp only [Option.some.injEq] at b; exact hip b.symm
      exact ⟨j, by rw [hS2]; exact hj, by rw [ho j e]; exact a, by rw [ho j e]; exact b, by rw [ho j e]; exact d⟩
end
end Go.Ha

namespace Go.Ha

section
variable {S : Sys} {w : Nat} {kd k : Int} {s : St}

/-- A bead is turned, and the hand with it: of those that mark. -/
theorem From.marks (F : From S w kd k s) (ha : S.algo ≠ 1 ∧ S.algo ≠ 2) {T : Sys} (hTnh : T.nh = S.nh) (hTh : T.hands = S.hands) (g : Grow S T) (n : NStep S T) (hlow : ∀ i, i < T.nn → (T.nodes i).mark = true → 0 ≤ (T.nodes i).key)
    (hl : ∀ i, i < S.nn → (T.nodes i).lock = (S.nodes i).lock) (hn : ∀ i, S.nn ≤ i → i < T.nn → (T.nodes i).lock = false) (x : Hd) (hat : ∀ t, x.st = some t → AlgoOk S.algo t)
    (hp : ∀ t, x.st = some t → t = .m3 → x.is = true ∧ ∀ c, x.c = some c → (T.nodes c).mark = true) : AInv (T.setH w x) := by
  have ho : ∀ j, j ≠ w → (T.setH w x).hands j = S.hands j := fun j hj => by rw [← hTh]; exact setF_ne _ _ hj
  have hw : (T.setH w x).hands w = x := hands_setH _ _ _
  have h0 : ∀ (y : Hd), (∀ t, y.st = some t → AlgoOk S.algo t) → holds y = [] := by
    intro y hy
    unfold holds
    cases e : y.st with
    | none => rfl
    | some t => have := hy t e; cases t <;> first | rfl | exact absurd this ha.1 | exact absurd this ha.2
  have lk : LInv (T.setH w x) := F.A.lk.quiet F.lt hTnh n.nn ho (by rw [hw, h0 x hat, h0 (S.hands w) (by rw [F.st]; intro t e; simp only [Option.some.injEq] at e; subst e; exact F.at'.algo)]) hl hn
  have n' : NStep S (T.setH w x) := by
    cases n with
    | same hn h => exact .same hn h
    | ins p c k a b d e f1 f2 f3 f4 f5 f6 => exact .ins p c k a b d e f1 f2 f3 f4 f5 f6
    | mark c a b d e f => exact .mark c a b d e f
    | unlink p c a b m d e f1 f2 f3 => exact .unlink p c a b m d e f1 f2 f3
    | cut p c a b d e f1 f2 f3 f4 f5 => exact .cut p c a b d e f1 f2 f3 f4 f5
  exact F.A.free F.I.nodes F.I (g.trans (.setH T w x)) ha n' F.lt hTnh ho lk hlow (by rw [hw]; exact hat) (by rw [hw]; exact hp)

theorem NStep.of {S T U : Sys} (n : NStep S T) (h1 : U.nodes = T.nodes) (h2 : U.nn = T.nn) : NStep S U := by
  cases n with
  | same hn h => exact .same (by rw [h2]; exact hn) (by rw [h1]; exact h)
  | ins p c k a b d e f1 f2 f3 f4 f5 f6 => exact .ins p c k a b d e f1 f2 (by rw [h2]; exact f3) (by rw [h1]; exact f4) (by rw [h1]; exact f5) (by rw [h1]; exact f6)
  | mark c a b d e f => exact .mark c a b (by rw [h2]; exact d) (by rw [h1]; exact e) (by rw [h1]; exact f)
  | unlink p c a b m d e f1 f2 f3 => exact .unlink p c a b m d e (by rw [h2]; exact f1) (by rw [h1]; exact f2) (by rw [h1]; exact f3)
  | cut p c a b d e f1 f2 f3 f4 f5 => exact .cut p c a b d e f1 (by rw [h2]; exact f2) (by rw [h1]; exact f3) (by rw [h1]; exact f4) (by rw [h1]; exact f5)

theorem Reach.of {T U : Sys} (h1 : U.nodes = T.nodes) (h2 : U.nn = T.nn) {a b : Nat} (h : Reach T a b) : Reach U a b := by
  induction h with
  | refl => exact .refl _
  | step a b _ ih => exact .step (by rw [h2]; exact a) (by rw [h1]; exact b) ih

theorem Has.of {T U : Sys} (h1 : U.nodes = T.nodes) (h2 : U.nn = T.nn) (k : Int) : Has U k ↔ Has T k := by unfold Has; rw [h1, h2]

/-- The deed is done. -/
theorem From.marksEnd (F : From S w kd k s) (ha : S.algo ≠ 1 ∧ S.algo ≠ 2) {T : Sys} (hTnh : T.nh = S.nh) (hTh : T.hands = S.hands) (g : Grow S T) (n : NStep S T) (hlow : ∀ i, i < T.nn → (T.nodes i).mark = true → 0 ≤ (T.nodes i).key)
    (hl : ∀ i, i < S.nn → (T.nodes i).lock = (S.nodes i).lock) (hn : ∀ i, S.nn ≤ i → i < T.nn → (T.nodes i).lock = false) (x : Hd) : AInv (endS (T.setH w x) w) := by
  have e : endS (T.setH w x) w = (T.setH w { x with pos := x.pos + 1, st := none }).tell w ((T.told w).modify x.pos fun d => { d with fin := T.now, is := x.is }) := by
    unfold endS; simp only [hands_setH]
    show (Sys.tell _ _ _).setH w _ = _
    simp only [Sys.tell, Sys.setH, Sys.mk.injEq, true_and, and_true]
    funext i; simp only [setF]; split <;> rfl
  have A := F.marks ha hTnh hTh g n hlow hl hn { x with pos := x.pos + 1, st := none } (by intro t e; simp at e) (by intro t e; simp at e)
  rw [e]
  exact ⟨fun i hi hm => by refine Reach.of ?_ ?_ (A.ur i hi hm) <;> rfl, A.low, ⟨A.lk.held, A.lk.one, A.lk.all⟩, A.pend, A.l12, A.l, A.z5, A.z⟩

theorem did_m0 (F : From S w kd k .m0) : Did S (post S w kd k) w kd k .m0 (act S w kd k).2 ((act S w kd k).1.hands w) := by
  have hs := F.st
  have e : act S w kd k = (S.setH w { S.hands w with p := some 0, c := (S.nodes 0).next, st := some .m1 }, false) := by simp only [act, hs]
  simp only [post, e, Bool.false_eq_true, if_false, hands_setH]
  refine F.quiet _ (by simp) (by intro t e; simp only [Option.some.injEq] at e; subst e; simp) (by unfold holds; rw [hs]) (by intro t e h; simp only [Option.some.injEq] at e; subst e; simp at h)

theorem clean_iff {S : Sys} {p c : Nat} : cleanB S p c = true ↔ (S.nodes p).mark = false ∧ (S.nodes p).next = some c := by
  unfold cleanB; simp

/-- A marked bead is left out. -/
theorem unlink_facts (F : From S w kd k s) {p c : Nat} (h3 : p < S.nn) (h4 : c < S.nn) (mp : (S.nodes p).mark = false) (np : (S.nodes p).next = some c) (mc : (S.nodes c).mark = true) :
    NStep S (S.outN p (S.nodes c).next) ∧ (∀ k', Has (S.outN p (S.nodes c).next) k' ↔ Has S k') ∧ Grow S (S.outN p (S.nodes c).next) ∧
    (∀ i, i < (S.outN p (S.nodes c).next).nn → ((S.outN p (S.nodes c).next).nodes i).mark = true → 0 ≤ ((S.outN p (S.nodes c).next).nodes i).key) :=
  ⟨.unlink p c h3 h4 mp np mc rfl (by simp) fun i _ => ⟨by simp, fun e => by simp [e]⟩, Has.same rfl (.out S p _) fun i _ => by simp, .out S p _, fun i hi hm => by simp at hm ⊢; exact F.A.low i hi hm⟩

theorem did_m1 (F : From S w kd k .m1) : Did S (post S w kd k) w kd k .m1 (act S w kd k).2 ((act S w kd k).1.hands w) := by
  have hs := F.st
  have N := F.I.nodes
  have ha : S.algo ≠ 1 ∧ S.algo ≠ 2 := F.at'.algo
  obtain ⟨p, c, h1, h2, h3, h4, h5, h6, h7⟩ := F.at'.on rfl
  have hkd := F.ok.kind
  simp only at hkd
  have hold : holds (S.hands w) = [] := by unfold holds; rw [hs]
  by_cases hm : (S.nodes c).mark = true ∧ kd ≠ 3
  · by_cases hc : cleanB S p c = true
    · obtain ⟨mp, np⟩ := clean_iff.1 hc
      obtain ⟨x, hx⟩ : ∃ x, x = { S.hands w with c := (S.nodes c).next } := ⟨_, rfl⟩
      have e : act S w kd k = ((S.outN p (S.nodes c).next).setH w x, false) := by
        simp only [act, hs, h1, h2, Option.getD_some]; rw [if_pos hm, if_pos hc, hx]; simp only [hs, h1]; rfl
      simp only [post, e, Bool.false_eq_true, if_false, hands_setH]
      obtain ⟨n, hsame, g, hlow⟩ := unlink_facts F h3 h4 mp np hm.1
      have hxs : x.st = some .m1 := by rw [hx]; exact hs
      exact ⟨F.marks ha (T := S.outN p (S.nodes c).next) rfl rfl g n hlow (fun i _ => by simp) (fun i a b => by have : i < S.nn := b; omega) x (by rw [hxs]; intro t e; simp only [Option.some.injEq] at e; subst e; exact ha) (by rw [hxs]; intro t e h; simp only [Option.some.injEq] at e; subst e; simp at h),
        n.of rfl rfl, .on rfl (by simp) (by rw [hxs]; simp) hsame⟩
    · have e : act S w kd k = (S.setH w { S.hands w with st := some .m0 }, false) := by
        simp only [act, hs, h1, h2, Option.getD_some]; rw [if_pos hm, if_neg hc]
      simp only [post, e, Bool.false_eq_true, if_false, hands_setH]
      exact F.quiet _ (by simp) (by intro t e; simp only [Option.some.injEq] at e; subst e; simp) (by rw [hold]; rfl) (by intro t e h; simp only [Option.some.injEq] at e; subst e; simp at h)
  · by_cases hlt : (S.nodes c).key < k
    · have e : act S w kd k = (S.setH w { S.hands w with p := some c, c := (S.nodes c).next }, false) := by
        simp only [act, hs, h1, h2, Option.getD_some]; rw [if_neg hm, if_pos hlt]
      simp only [post, e, Bool.false_eq_true, if_false, hands_setH]
      exact F.quiet _ (by simp) (by rw [hs]; intro t e; simp only [Option.some.injEq] at e; subst e; simp) (by unfold holds; simp [hs]) (by rw [hs]; intro t e h; simp only [Option.some.injEq] at e; subst e; simp at h)
    · by_cases h3k : kd = 3
      · have e : act S w kd k = (S.setH w { S.hands w with is := (S.nodes c).key == k && !(S.nodes c).mark }, true) := by
          simp only [act, hs, h1, h2, Option.getD_some]; rw [if_neg hm, if_neg hlt, if_pos h3k]
        simp only [post, e, if_true, hands_setH]
        exact F.over _ (by simp) hold fun h => has_came F (.inr rfl) h2 h4 hlt h3k rfl h
      · have mc : (S.nodes c).mark = false := by
          cases h : (S.nodes c).mark with
          | false => rfl
          | true => exact absurd ⟨h, h3k⟩ hm
        by_cases hq : (((S.nodes c).key == k) == (kd == 1)) = true
        · have e : act S w kd k = (S.setH w { S.hands w with is := false }, true) := by
            simp only [act, hs, h1, h2, Option.getD_some]; rw [if_neg hm, if_neg hlt, if_neg h3k, if_pos hq]
          simp only [post, e, if_true, hands_setH]
          refine F.over _ (by simp) hold fun h => ?_
          by_cases hk1 : kd = 1
          · have heq : (S.nodes c).key = k := by simpa [hk1] using hq
            exact .now rfl (by simp) h (.inl ⟨hk1, rfl, ⟨c, h4, mc, heq⟩⟩)
          · have hne : (S.nodes c).key ≠ k := by
              intro e; rw [e] at hq; simp at hq; exact hk1 hq
            refine .past rfl (.inr rfl) h (.inl (by omega)) rfl ?_
            intro c' hc' ⟨i, hi, mi, ki, r⟩
            rw [h2] at hc'; simp only [Option.some.injEq] at hc'; subst hc'
            rcases r.key N with e | e
            · subst e; exact hne ki
            · omega
        · have e : act S w kd k = (S.setH w { S.hands w with st := some .m2 }, false) := by
            simp only [act, hs, h1, h2, Option.getD_some]; rw [if_neg hm, if_neg hlt, if_neg h3k, if_neg hq]
          simp only [post, e, Bool.false_eq_true, if_false, hands_setH]
          exact F.quiet _ (by simp) (by intro t e; simp only [Option.some.injEq] at e; subst e; simp) (by rw [hold]; rfl) (by intro t e h; simp only [Option.some.injEq] at e; subst e; simp at h)

theorem did_m2 (F : From S w kd k .m2) (h4a : S.algo ≠ 4) : Did S (post S w kd k) w kd k .m2 (act S w kd k).2 ((act S w kd k).1.hands w) := by
  have hs := F.st
  have N := F.I.nodes
  have ha : S.algo ≠ 1 ∧ S.algo ≠ 2 := F.at'.algo
  obtain ⟨p, c, h1, h2, h3, h4, h5, h6, h7⟩ := F.at'.on rfl
  have h8 : (kd = 1 ∧ k < (S.nodes c).key) ∨ (kd = 2 ∧ (S.nodes c).key = k) := h7
  have hk0 := F.ok.key.1
  have hk9 := F.ok.key.2
  simp only at hk0 hk9
  have hold : holds (S.hands w) = [] := by unfold holds; rw [hs]
  by_cases hins : kd = 1 ∧ (S.algo = 4 ∨ cleanB S p c = true)
  · obtain ⟨mp, np⟩ := clean_iff.1 (hins.2.resolve_left h4a)
    obtain ⟨x, hx⟩ : ∃ x, x = { S.hands w with is := true } := ⟨_, rfl⟩
    have e : act S w kd k = ((S.insN p c k).setH w x, true) := by
      simp only [act, hs, h1, h2, Option.getD_some]; rw [if_pos hins, hx]; simp only [hs, h1, h2]; rfl
    simp only [post, e, if_true, hands_setH]
    have hlt : k < (S.nodes c).key := by omega
    have hmark : ∀ i, i < S.nn → ((S.insN p c k).nodes i).mark = (S.nodes i).mark := fun i hi => insN_mark S hi
    have hnew : ((S.insN p c k).nodes S.nn).key = k ∧ ((S.insN p c k).nodes S.nn).next = some c ∧ ((S.insN p c k).nodes S.nn).mark = false := by simp [insN_new S h3]
    have g : Grow S (S.insN p c k) := Grow.put S h3
    have n : NStep S (S.insN p c k) := .ins p c k h3 h4 mp np h5 hlt rfl hnew (by rw [insN_next S h3, if_pos rfl]) fun i hi => ⟨hmark i hi, fun e => by rw [insN_next S hi, if_neg e]⟩
    have hput := Has.put N F.A.ur g h3 mp np h5 hlt rfl hnew hmark
    have hlow : ∀ i, i < (S.insN p c k).nn → ((S.insN p c k).nodes i).mark = true → 0 ≤ ((S.insN p c k).nodes i).key := by
      intro i hi hm
      by_cases hi' : i < S.nn
      · rw [hmark i hi'] at hm; rw [g.key i hi']; exact F.A.low i hi' hm
      · have : i = S.nn := by have : i < S.nn + 1 := hi; omega
        subst this; rw [hnew.1]; exact hk0
    refine ⟨F.marksEnd ha (T := S.insN p c k) rfl rfl g n hlow (fun i hi => insN_lock S hi) (fun i a b => ?_) x, n.of rfl rfl, .add rfl (by simp) hins.1 (by rw [hx]) hput.1 hput.2.1 hput.2.2⟩
    have : i = S.nn := by have : i < S.nn + 1 := b; omega
    subst this; rw [insN_new S h3]
  · by_cases hn : kd = 2 ∧ S.algo = 4
    · exact absurd hn.2 h4a
    · by_cases hcut : kd = 2 ∧ (S.nodes c).mark = false
      · obtain ⟨x, hx⟩ : ∃ x, x = { S.hands w with is := true, st := some .m3 } := ⟨_, rfl⟩
        have e : act S w kd k = ((S.markN c true).setH w x, false) := by
          simp only [act, hs, h1, h2, Option.getD_some]; rw [if_neg hins, if_neg hn, if_pos hcut, hx]; simp only [h1, h2]
        simp only [post, e, Bool.false_eq_true, if_false, hands_setH]
        have heq : (S.nodes c).key = k := by omega
        have g : Grow S (S.markN c true) := .markN S c true
        have n : NStep S (S.markN c true) := .mark c h4 hcut.2 rfl (by simp) fun i hi => ⟨by simp, fun e => by simp [e]⟩
        have hput := Has.marked N F.A.ur g h4 hcut.2 rfl (by simp) fun i _ e => by simp [e]
        rw [heq] at hput
        have hxs : x.st = some .m3 := by rw [hx]
        refine ⟨F.marks ha (T := S.markN c true) rfl rfl g n ?_ (fun i _ => by simp) (fun i a b => by have : i < S.nn := b; omega) x (by rw [hxs]; intro t e; simp only [Option.some.injEq] at e; subst e; exact ha) ?_, n.of rfl rfl, .pend rfl (by simp) (.inr hxs) hcut.1 (by rw [hx]) hput.1 hput.2.1 hput.2.2⟩
        · intro i hi hm
          simp at hm ⊢
          rcases hm with e | hm
          · subst e; omega
          · exact F.A.low i hi hm
        · intro t _ _
          refine ⟨by rw [hx], fun c' hc' => ?_⟩
          rw [hx] at hc'; simp only [h2, Option.some.injEq] at hc'; subst hc'
          simp
      · have e : act S w kd k = (S.setH w { S.hands w with st := some .m0 }, false) := by
          simp only [act, hs, h1, h2, Option.getD_some]; rw [if_neg hins, if_neg hn, if_neg hcut]
        simp only [post, e, Bool.false_eq_true, if_false, hands_setH]
        exact F.quiet _ (by simp) (by intro t e; simp only [Option.some.injEq] at e; subst e; simp) (by rw [hold]; rfl) (by intro t e h; simp only [Option.some.injEq] at e; subst e; simp at h)

theorem did_m3 (F : From S w kd k .m3) : Did S (post S w kd k) w kd k .m3 (act S w kd k).2 ((act S w kd k).1.hands w) := by
  have hs := F.st
  have ha : S.algo ≠ 1 ∧ S.algo ≠ 2 := F.at'.algo
  obtain ⟨p, c, h1, h2, h3, h4, h5, h6, h7⟩ := F.at'.on rfl
  obtain ⟨hk2, heq⟩ : kd = 2 ∧ (S.nodes c).key = k := h7
  obtain ⟨his, hmc⟩ := F.A.pend w F.lt _ hs (.inr rfl)
  have mc := hmc c h2
  by_cases hc : cleanB S p c = true
  · obtain ⟨mp, np⟩ := clean_iff.1 hc
    have e : act S w kd k = (S.outN p (S.nodes c).next, true) := by
      simp only [act, hs, h1, h2, Option.getD_some]; rw [if_pos hc]; rfl
    simp only [post, e, if_true]
    obtain ⟨n, hsame, g, hlow⟩ := unlink_facts F h3 h4 mp np mc
    have e2 : S.outN p (S.nodes c).next = (S.outN p (S.nodes c).next).setH w ((S.outN p (S.nodes c).next).hands w) := (setH_self _ _).symm
    have A := F.marksEnd ha (T := S.outN p (S.nodes c).next) rfl rfl g n hlow (fun i _ => by simp) (fun i a b => by have : i < S.nn := b; omega) ((S.outN p (S.nodes c).next).hands w)
    rw [← e2] at A
    exact ⟨A, n.of rfl rfl, .drop rfl (.inr rfl) hk2 his hsame⟩
  · have e : act S w kd k = (S, true) := by
      simp only [act, hs, h1, h2, Option.getD_some]; rw [if_neg hc]
    simp only [post, e, if_true]
    have n : NStep S S := .same rfl fun i _ => ⟨rfl, rfl⟩
    have A := F.marksEnd ha (T := S) rfl rfl (.refl S) n F.A.low (fun i _ => rfl) (fun i a b => by omega) (S.hands w)
    rw [setH_self] at A
    exact ⟨A, n.of rfl rfl, .drop rfl (.inr rfl) hk2 his fun k' => Iff.rfl⟩

/-- What comes of any step. -/
theorem did (F : From S w kd k s) (h4 : S.algo ≠ 4) : Did S (post S w kd k) w kd k s (act S w kd k).2 ((act S w kd k).1.hands w) := by
  cases s with
  | l0 => exact did_l0 F
  | l1 => exact did_l1 F
  | l2 => exact did_l2 F
  | z0 => exact did_z0 F
  | z1 => exact did_z1 F
  | z2 => exact did_z2 F
  | z3 => exact did_z3 F
  | z4 => exact did_z4 F
  | z5 => exact did_z5 F
  | m0 => exact did_m0 F
  | m1 => exact did_m1 F
  | m2 => exact did_m2 F h4
  | m3 => exact did_m3 F
end
end Go.Ha

namespace Go.Ha

section
variable {S : Sys}

/-- Where one comes to look at beads. -/
theorem trav {w : Nat} {kd k : Int} {s s' : St} (F : From S w kd k s) (hb : (act S w kd k).2 = false) (hs' : ((act S w kd k).1.hands w).st = some s') (h : s' = .z1 ∨ s' = .m1) {c' : Nat} (hc' : ((act S w kd k).1.hands w).c = some c') :
    ((s = .z0 ∨ s = .m0) ∧ (S.nodes 0).next = some c') ∨ (s = s' ∧ ∃ c, (S.hands w).c = some c ∧ c < S.nn ∧ (S.nodes c).next = some c' ∧ ((S.nodes c).key < k ∨ (S.nodes c).mark = true)) := by
  have hs := F.st
  cases s with
  | l0 =>
    simp only [act, hs] at hs'
    split at hs'
    · rw [hs] at hs'; simp only [Option.some.injEq] at hs'; subst hs'; rcases h with h | h <;> simp at h
    · rw [hands_setH] at hs'; simp only [Option.some.injEq] at hs'; subst hs'; rcases h with h | h <;> simp at h
  | l1 =>
    simp only [act, hs] at hs'
    split at hs'
    · rw [hs] at hs'; simp only [Option.some.injEq] at hs'; subst hs'; rcases h with h | h <;> simp at h
    · rw [hands_setH] at hs'; simp only [Option.some.injEq] at hs'; subst hs'; rcases h with h | h <;> simp at h
  | l2 =>
    simp only [act, hs] at hs' hb
    split at hs'
    · rw [hands_setH] at hs'; simp only [Option.some.injEq] at hs'; subst hs'; rcases h with h | h <;> simp at h
    · rename_i hn; rw [if_neg hn] at hb; simp at hb
  | z0 =>
    simp only [act, hs, hands_setH] at hc'
    exact .inl ⟨.inl rfl, hc'⟩
  | m0 =>
    simp only [act, hs, hands_setH] at hc'
    exact .inl ⟨.inr rfl, hc'⟩
  | z1 =>
    obtain ⟨p, c, h1, h2, h3, h4, h5, h6, h7⟩ := F.at'.on rfl
    simp only [act, hs, h1, h2, Option.getD_some] at hs' hb hc'
    split at hs'
    · rename_i hlt
      rw [if_pos hlt, hands_setH] at hc'
      rw [hands_setH] at hs'
      simp only [Option.some.injEq] at hs'
      exact .inr ⟨hs', c, h2, h4, hc', .inl hlt⟩
    · rename_i hlt
      split at hs'
      · rename_i hk; rw [if_neg hlt, if_pos hk] at hb; simp at hb
      · unfold first at hs'
        split at hs' <;> (rw [hands_setH] at hs'; simp only [Option.some.injEq] at hs'; subst hs'; rcases h with h | h <;> simp at h)
  | z2 =>
    simp only [act, hs, first] at hs'
    split at hs' <;> (rw [hands_setH] at hs'; simp only [Option.some.injEq] at hs'; subst hs'; rcases h with h | h <;> simp at h)
  | z3 =>
    simp only [act, hs] at hs'
    split at hs'
    · rw [hs] at hs'; simp only [Option.some.injEq] at hs'; subst hs'; rcases h with h | h <;> simp at h
    · rw [hands_setH] at hs'; simp only [Option.some.injEq] at hs'; subst hs'; rcases h with h | h <;> simp at h
  | z4 =>
    simp only [act, hs] at hs' hb
    split at hs'
    · rw [hands_setH] at hs'; simp only [Option.some.injEq] at hs'; subst hs'; rcases h with h | h <;> simp at h
    · rename_i hn; rw [if_neg hn] at hb
      split at hs'
      · rename_i hk; rw [if_pos hk] at hb; simp at hb
      · rename_i hk; rw [if_neg hk] at hb
        split at hs'
        · rw [hands_setH] at hs'; simp only [Option.some.injEq] at hs'; subst hs'; rcases h with h | h <;> simp at h
        · rename_i hk2; rw [if_neg hk2] at hb; simp at hb
  | z5 => simp only [act, hs] at hb; simp at hb
  | m1 =>
    obtain ⟨p, c, h1, h2, h3, h4, h5, h6, h7⟩ := F.at'.on rfl
    simp only [act, hs, h1, h2, Option.getD_some] at hs' hb hc'
    split at hs'
    · rename_i hm
      rw [if_pos hm] at hc'
      split at hs'
      · rename_i hcl
        rw [if_pos hcl, hands_setH] at hc'
        rw [hands_setH] at hs'
        simp only [Option.some.injEq] at hs'
        exact .inr ⟨hs', c, h2, h4, hc', .inr hm.1⟩
      · rw [hands_setH] at hs'; simp only [Option.some.injEq] at hs'; subst hs'; rcases h with h | h <;> simp at h
    · rename_i hm
      rw [if_neg hm] at hc' hb
      split at hs'
      · rename_i hlt
        rw [if_pos hlt, hands_setH] at hc'
        rw [hands_setH] at hs'
        simp only [Option.some.injEq] at hs'
        exact .inr ⟨hs', c, h2, h4, hc', .inl hlt⟩
      · rename_i hlt
        rw [if_neg hlt] at hb
        split at hs'
        · rename_i hk; rw [if_pos hk] at hb; simp at hb
        · rename_i hk; rw [if_neg hk] at hb
          split at hs'
          · rename_i hq; rw [if_pos hq] at hb; simp at hb
          · rw [hands_setH] at hs'; simp only [Option.some.injEq] at hs'; subst hs'; rcases h with h | h <;> simp at h
  | m2 =>
    simp only [act, hs] at hs' hb
    split at hs'
    · rename_i hk; rw [if_pos hk] at hb; simp at hb
    · rename_i hk; rw [if_neg hk] at hb
      split at hs'
      · rename_i hk; rw [if_pos hk] at hb; simp at hb
      · split at hs' <;> (rw [hands_setH] at hs'; simp only [Option.some.injEq] at hs'; subst hs'; rcases h with h | h <;> simp at h)
  | m3 => simp only [act, hs] at hb; simp at hb

/-- Who was there, and is there still, is the same bead. -/
theorem NStep.keep {S' : Sys} (n : NStep S S') (N : NodesOk S) (U : _root_.Go.Ha.UR S) (g : Grow S S') {i : Nat} {k : Int} (hi : i < S.nn) (mi : (S.nodes i).mark = false) (ki : (S.nodes i).key = k) (h : Has S' k) : (S'.nodes i).mark = false := by
  obtain ⟨i', h1, h2, h3⟩ := h
  by_cases hlt : i' < S.nn
  · have e := U.one N hi mi hlt (n.marks hlt h2) (by rw [ki, ← g.key i' hlt, h3])
    subst e; exact h2
  · cases n with
    | same hn _ => omega
    | ins p c kk hp hc mp np k1 k2 hn new np' f =>
      have e : i' = S.nn := by omega
      subst e
      have := Has.put N U g hp mp np k1 k2 hn new fun i hi => (f i hi).1
      have ek : kk = k := by rw [← new.1, h3]
      exact absurd ⟨i, hi, mi, ki⟩ (ek ▸ this.1)
    | mark c _ _ hn _ _ => omega
    | unlink p c _ _ _ _ _ hn _ _ => omega
    | cut p c _ _ _ _ _ hn _ _ _ => omega

end

/-- The state behind 'begin' is as the one ahead of it, but for the hand. -/
theorem AInv.begin {S : Sys} (A : AInv S) (I : Inv S) {j : Nat} (hj : j < S.nh) : AInv (beginS S j) := by
  unfold beginS
  split
  · rename_i hst
    have ho : ∀ i, i ≠ j → (S.setH j { S.hands j with st := some (St.start S.algo), is := false }).hands i = S.hands i := fun i hi => setF_ne _ _ hi
    have hb : (St.start S.algo).begins = true := start_begins _
    have hh : holds { S.hands j with st := some (St.start S.algo), is := false } = holds (S.hands j) := by
      rw [st_none_holds hst]; unfold holds; cases e : St.start S.algo <;> simp_all [St.begins]
    have h2 := A.same I.nodes I (.setH S j { S.hands j with st := some (St.start S.algo), is := false }) hj rfl rfl ho (fun i _ => ⟨rfl, rfl⟩) (A.lk.quiet hj rfl (Nat.le_refl _) ho (by rw [hands_setH]; exact hh) (fun _ _ => rfl) (fun i h1 h2 => by simp at h2; omega))
      (by rw [hst]; simp) (by rw [hands_setH]; intro s hs; simp only [Option.some.injEq] at hs; subst hs; constructor <;> (intro e; rw [e] at hb; simp [St.begins] at hb))
      (by rw [hands_setH]; intro s hs h; simp only [Option.some.injEq] at hs; subst hs; rcases h with h | h <;> (rw [h] at hb; simp [St.begins] at hb))
    exact ⟨fun i hi hm => by refine Reach.of ?_ ?_ (h2.ur i hi hm) <;> rfl, h2.low, ⟨h2.lk.held, h2.lk.one, h2.lk.all⟩, h2.pend, h2.l12, h2.l, h2.z5, h2.z⟩
  · exact A

theorem AInv.tick {S : Sys} (A : AInv S) : AInv S.tick :=
  ⟨fun i hi hm => by refine Reach.of ?_ ?_ (A.ur i hi hm) <;> rfl, A.low, ⟨A.lk.held, A.lk.one, A.lk.all⟩, A.pend, A.l12, A.l, A.z5, A.z⟩

theorem beginS_nodes (S : Sys) (j : Nat) : (beginS S j).nodes = S.nodes := by unfold beginS; split <;> rfl
theorem beginS_nn (S : Sys) (j : Nat) : (beginS S j).nn = S.nn := by unfold beginS; split <;> rfl
theorem beginS_algo (S : Sys) (j : Nat) : (beginS S j).algo = S.algo := by unfold beginS; split <;> rfl
theorem beginS_others (S : Sys) (j i : Nat) (h : i ≠ j) : (beginS S j).hands i = S.hands i ∧ (beginS S j).told i = S.told i := by
  unfold beginS; split
  · exact ⟨setF_ne _ _ h, setF_ne _ _ h⟩
  · exact ⟨rfl, rfl⟩

/-- A step, in its parts. -/
theorem step_eq {S : Sys} {j : Nat} {kd k : Int} (hd : (S.hands j).prog[(S.hands j).pos]? = some (kd, k)) : S.step j = (post (beginS S j) j kd k).tick := by
  unfold Sys.step post; rw [hd]

theorem From.begin {S : Sys} (I : Inv S) (A : AInv S) {j : Nat} (hj : j < S.nh) {kd k : Int} (hd : (S.hands j).prog[(S.hands j).pos]? = some (kd, k)) : ∃ s, From (beginS S j) j kd k s := by
  obtain ⟨s, hs⟩ := Option.ne_none_iff_exists'.1 (beginS_st S j)
  exact ⟨s, I.begin hj hd, A.begin I hj, by rw [beginS_nh]; exact hj, hs, by rw [beginS_prog, beginS_pos]; exact hd⟩

/-- All that a step does. -/
theorem step_did {S : Sys} (I : Inv S) (A : AInv S) (h4 : S.algo ≠ 4) {j : Nat} (hj : j < S.nh) {kd k : Int} (hd : (S.hands j).prog[(S.hands j).pos]? = some (kd, k)) :
    ∃ s, From (beginS S j) j kd k s ∧ Did (beginS S j) (post (beginS S j) j kd k) j kd k s (act (beginS S j) j kd k).2 ((act (beginS S j) j kd k).1.hands j) := by
  obtain ⟨s, F⟩ := From.begin I A hj hd
  exact ⟨s, F, did F (by rw [beginS_algo]; exact h4)⟩
end Go.Ha

namespace Go.Ha

section
variable (ex : Nat → Sys) (w : Nat → Nat)

def Still (u : Nat) : Prop := ∀ k, Has (ex (u + 1)) k ↔ Has (ex u) k
def Mine (j i u : Nat) : Prop := w u = j ∧ ((ex u).hands j).pos = i
def EffAt (kd k : Int) (u : Nat) : Prop :=
  ((kd = 1 ∧ ¬ Has (ex u) k ∧ Has (ex (u + 1)) k) ∨ (kd = 2 ∧ Has (ex u) k ∧ ¬ Has (ex (u + 1)) k)) ∧ ∀ k', k' ≠ k → (Has (ex (u + 1)) k' ↔ Has (ex u) k')
def Quiet (t j i : Nat) : Prop := ∀ u, u < t → Mine ex w j i u → Still ex u
def Once (t j i : Nat) (kd k : Int) (lo hi : Nat) : Prop :=
  ∃ u, lo ≤ u ∧ u ≤ hi ∧ u < t ∧ Mine ex w j i u ∧ EffAt ex kd k u ∧ ∀ u', u' < t → Mine ex w j i u' → u' ≠ u → Still ex u'
def Ans (kd k : Int) (is : Bool) (s : Nat) : Prop := (kd = 1 ∧ is = false ∧ Has (ex s) k) ∨ (kd = 2 ∧ is = false ∧ ¬ Has (ex s) k) ∨ (kd = 3 ∧ (is = true ↔ Has (ex s) k))
/-- A deed that ended. -/
def Ended (t j i : Nat) (d : Dn) (kd k : Int) : Prop :=
  ∃ f : Nat, d.fin = f ∧ d.beg ≤ f ∧ f < t ∧ ((d.is = true ∧ kd ≠ 3 ∧ Once ex w t j i kd k d.beg f) ∨ (Quiet ex w t j i ∧ ∃ s, d.beg < s ∧ s ≤ f + 1 ∧ Ans ex kd k d.is s))

/-- Who looks for a key: once it was not there, or it is ahead. -/
def Ahead (S : Sys) (t : Nat) (beg : Nat) (x : Hd) (k : Int) : Prop :=
  (∃ s, beg < s ∧ s ≤ t ∧ ¬ Has (ex s) k) ∨ ∀ c, x.c = some c → ∃ i, i < S.nn ∧ (S.nodes i).mark = false ∧ (S.nodes i).key = k ∧ Reach S c i

/-- What is known of a deed under way. -/
structure Busy (S : Sys) (t j : Nat) (s : St) (d : Dn) (kd k : Int) : Prop where
  beg : d.beg ≤ t
  fin : d.fin = -1
  pend : s = .z5 ∨ s = .m3 → kd = 2 ∧ Once ex w t j ((S.hands j).pos) kd k d.beg t
  quiet : s ≠ .z5 → s ≠ .m3 → Quiet ex w t j ((S.hands j).pos)
  ahead : s = .z1 ∨ s = .m1 → Ahead ex S t d.beg (S.hands j) k

structure Tr (t j : Nat) : Prop where
  mono : ∀ u, u ≤ t → ((ex u).hands j).pos ≤ ((ex t).hands j).pos
  who : ∀ (i : Nat) (d : Dn), ((ex t).told j)[i]? = some d → d.who = j ∧ d.deed = i ∧ d.beg < t
  done : ∀ (i : Nat) (d : Dn), ((ex t).told j)[i]? = some d → i < ((ex t).hands j).pos → ∀ kd k, ((ex t).hands j).prog[i]? = some (kd, k) → Ended ex w t j i d kd k
  idle : ((ex t).hands j).st = none → ∀ u, u < t → w u = j → ((ex u).hands j).pos ≠ ((ex t).hands j).pos
  busy : ∀ s, ((ex t).hands j).st = some s → ∀ d, ((ex t).told j)[((ex t).hands j).pos]? = some d → ∀ kd k, ((ex t).hands j).prog[((ex t).hands j).pos]? = some (kd, k) → Busy ex w (ex t) t j s d kd k

variable {ex w}

theorem Quiet.ext {t j i : Nat} (h : Quiet ex w t j i) (hn : Mine ex w j i t → Still ex t) : Quiet ex w (t + 1) j i := by
  intro u hu hm
  by_cases e : u = t
  · subst e; exact hn hm
  · exact h u (by omega) hm
theorem Once.ext {t j i lo hi : Nat} {kd k : Int} (h : Once ex w t j i kd k lo hi) (hn : Mine ex w j i t → Still ex t) : Once ex w (t + 1) j i kd k lo hi := by
  obtain ⟨u, a, b, c, d, e, f⟩ := h
  refine ⟨u, a, b, by omega, d, e, fun u' hu hm hne => ?_⟩
  by_cases e' : u' = t
  · subst e'; exact hn hm
  · exact f u' (by omega) hm hne
theorem Ended.ext {t j i : Nat} {d : Dn} {kd k : Int} (h : Ended ex w t j i d kd k) (hn : ¬ Mine ex w j i t) : Ended ex w (t + 1) j i d kd k := by
  obtain ⟨f, a, b, c, e⟩ := h
  refine ⟨f, a, b, by omega, ?_⟩
  rcases e with ⟨e1, e2, e3⟩ | ⟨e1, e2⟩
  · exact .inl ⟨e1, e2, e3.ext fun h => absurd h hn⟩
  · exact .inr ⟨e1.ext fun h => absurd h hn, e2⟩

/-- It stays ahead. -/
theorem Ahead.ext {S S' : Sys} {t beg : Nat} {x : Hd} {k : Int} (h : Ahead ex S t beg x k) (N : NodesOk S) (U : UR S) (g : Grow S S') (n : NStep S S') (he : ∀ k, Has (ex (t + 1)) k ↔ Has S' k) (hb : beg < t + 1) : Ahead ex S' (t + 1) beg x k := by
  rcases h with ⟨s, a, b, c⟩ | h
  · exact .inl ⟨s, a, by omega, c⟩
  · by_cases hh : Has S' k
    · right
      intro c hc
      obtain ⟨i, h1, h2, h3, h4⟩ := h c hc
      have m := n.keep N U g h1 h2 h3 hh
      exact ⟨i, by have := n.nn; omega, m, by rw [g.key i h1]; exact h3, n.reach N h4 m⟩
    · left; exact ⟨t + 1, hb, Nat.le_refl _, by rw [he]; exact hh⟩

/-- A run of the model. -/
structure RunOk (ex : Nat → Sys) (w : Nat → Nat) (T : Nat) : Prop where
  inv : Inv (ex 0)
  ainv : AInv (ex 0)
  algo : (ex 0).algo ≠ 4
  now : (ex 0).now = 0
  start : ∀ j, ((ex 0).hands j).st = none ∧ ((ex 0).hands j).pos = 0 ∧ (ex 0).told j = []
  step : ∀ t, t < T → w t < (ex 0).nh ∧ hasDeed (ex t) (w t) = true ∧ ex (t + 1) = (ex t).step (w t)

/-- What holds at a time. -/
structure AtTime (ex : Nat → Sys) (w : Nat → Nat) (t : Nat) : Prop where
  inv : Inv (ex t)
  ainv : AInv (ex t)
  algo : (ex t).algo = (ex 0).algo
  nh : (ex t).nh = (ex 0).nh
  now : (ex t).now = t
  prog : ∀ j, ((ex t).hands j).prog = ((ex 0).hands j).prog
  tr : ∀ j, j < (ex 0).nh → Tr ex w t j

theorem atTime0 {T : Nat} (R : RunOk ex w T) : AtTime ex w 0 := by
  refine ⟨R.inv, R.ainv, rfl, rfl, R.now, fun _ => rfl, fun j hj => ?_⟩
  obtain ⟨a, b, c⟩ := R.start j
  refine ⟨fun u hu => by have : u = 0 := by omega
                         subst this; exact Nat.le_refl _, ?_, ?_, fun _ u hu => by omega, ?_⟩
  · intro i d h; rw [c] at h; simp at h
  · intro i d h; rw [c] at h; simp at h
  · intro s hs; rw [a] at hs; simp at hs

/-- The hands that do not step. -/
theorem Tr.other {t j : Nat} (H : Tr ex w t j) (hj : w t ≠ j) (hh : (ex (t + 1)).hands j = (ex t).hands j) (ht : (ex (t + 1)).told j = (ex t).told j) (N : NodesOk (ex t)) (U : UR (ex t)) (g : Grow (ex t) (ex (t + 1))) (n : NStep (ex t) (ex (t + 1))) : Tr ex w (t + 1) j := by
  have hm : ∀ i, ¬ Mine ex w j i t := fun i h => hj h.1
  refine ⟨?_, ?_, ?_, ?_, ?_⟩
  · intro u hu; rw [hh]
    by_cases e : u = t + 1
    · subst e; rw [hh]; exact Nat.le_refl _
    · exact H.mono u (by omega)
  · intro i d h; rw [ht] at h; obtain ⟨a, b, c⟩ := H.who i d h; exact ⟨a, b, by omega⟩
  · intro i d h hi kd k hd; rw [ht] at h; rw [hh] at hi hd; exact (H.done i d h hi kd k hd).ext (hm i)
  · intro h u hu hw; rw [hh] at h ⊢
    by_cases e : u = t
    · subst e; exact absurd hw hj
    · exact H.idle h u (by omega) hw
  · intro s hs d hd kd k hk
    rw [hh] at hs hd hk; rw [ht] at hd
    have B := H.busy s hs d hd kd k hk
    have hbeg := (H.who _ _ hd).2.2
    refine ⟨by omega, B.fin, ?_, ?_, ?_⟩
    · intro h; rw [hh]; obtain ⟨a, b⟩ := B.pend h
      have := b.ext fun h => absurd h (hm _)
      obtain ⟨u, x1, x2, x3⟩ := this
      exact ⟨a, u, x1, by omega, x3⟩
    · intro a b; rw [hh]; exact (B.quiet a b).ext fun h => absurd h (hm _)
    · intro a; rw [hh]
      exact (B.ahead a).ext N U g n (fun _ => Iff.rfl) (by omega)

theorem post_others {B : Sys} {j i : Nat} {kd k : Int} (h : i ≠ j) : (post B j kd k).hands i = B.hands i ∧ (post B j kd k).told i = B.told i := by
  unfold post
  split
  · refine ⟨(endS_others _ _ _ h).trans (act_others _ _ _ _ _ h), ?_⟩
    show setF (act B j kd k).1.told j _ i = _
    rw [setF_ne _ _ h, act_told]
  · exact ⟨act_others _ _ _ _ _ h, by rw [act_told]⟩
end
end Go.Ha

namespace Go.Ha

section
variable {ex : Nat → Sys} {w : Nat → Nat}

/-- What is told of the deed under way, once it began. -/
theorem busy_begin {t j : Nat} (X : AtTime ex w t) (hj : j < (ex 0).nh) (hw : w t = j) {kd k : Int} (hd : ((ex t).hands j).prog[((ex t).hands j).pos]? = some (kd, k)) {s : St} (F : From (beginS (ex t) j) j kd k s) :
    ∃ d, ((beginS (ex t) j).told j)[((ex t).hands j).pos]? = some d ∧ d.who = j ∧ d.deed = ((ex t).hands j).pos ∧ Busy ex w (beginS (ex t) j) t j s d kd k ∧
      ∀ i d', ((beginS (ex t) j).told j)[i]? = some d' → i < ((ex t).hands j).pos → ((ex t).told j)[i]? = some d' := by
  have H := X.tr j hj
  have hjn : j < (ex t).nh := by rw [X.nh]; exact hj
  have hlen := (X.inv.hands j hjn).told
  have hs := F.st
  by_cases hst : ((ex t).hands j).st = none
  · rw [if_pos hst] at hlen
    have e : beginS (ex t) j = ((ex t).setH j { (ex t).hands j with st := some (St.start (ex t).algo), is := false }).tell j ((ex t).told j ++ [beginD (ex t) j]) := by unfold beginS; rw [if_pos hst]
    have ht : (beginS (ex t) j).told j = (ex t).told j ++ [beginD (ex t) j] := by rw [e]; simp [Sys.tell]
    have hsb : s.begins = true := by
      have : ((beginS (ex t) j).hands j).st = some (St.start (ex t).algo) := by
        rw [e]; show (((ex t).setH j _).hands j).st = _; rw [hands_setH]
      rw [this] at hs; simp only [Option.some.injEq] at hs; subst hs; exact start_begins _
    have hnot : s ≠ .z5 ∧ s ≠ .m3 ∧ s ≠ .z1 ∧ s ≠ .m1 := by cases s <;> simp_all [St.begins]
    refine ⟨beginD (ex t) j, ?_, rfl, rfl, ?_, ?_⟩
    · rw [ht, List.getElem?_append_right (by omega)]
      have : ((ex t).hands j).pos - ((ex t).told j).length = 0 := by omega
      rw [this]; rfl
    · refine ⟨by show (ex t).now ≤ t; rw [X.now]; exact Nat.le_refl _, rfl, fun h => ?_, fun _ _ => ?_, fun h => ?_⟩
      · rcases h with h | h
        · exact absurd h hnot.1
        · exact absurd h hnot.2.1
      · rw [beginS_pos]
        intro u hu hm
        exact absurd hm.2 (H.idle hst u hu hm.1)
      · rcases h with h | h
        · exact absurd h hnot.2.2.1
        · exact absurd h hnot.2.2.2
    · intro i d' hd' hi
      rw [ht, List.getElem?_append_left (by omega)] at hd'
      exact hd'
  · rw [if_neg hst] at hlen
    have e : beginS (ex t) j = ex t := by unfold beginS; rw [if_neg hst]
    rw [e] at hs ⊢
    obtain ⟨d, hd1⟩ : ∃ d, ((ex t).told j)[((ex t).hands j).pos]? = some d := ⟨_, List.getElem?_eq_getElem (by omega)⟩
    obtain ⟨a, b, _⟩ := H.who _ _ hd1
    exact ⟨d, hd1, a, b, H.busy s hs d hd1 kd k hd, fun i d' h _ => h⟩

/-- The hand that steps. -/
theorem Tr.own {t j : Nat} (X : AtTime ex w t) (h4 : (ex 0).algo ≠ 4) (hj : j < (ex 0).nh) (hw : w t = j) {kd k : Int} (hd : ((ex t).hands j).prog[((ex t).hands j).pos]? = some (kd, k)) {s : St} (F : From (beginS (ex t) j) j kd k s)
    (D : Did (beginS (ex t) j) (post (beginS (ex t) j) j kd k) j kd k s (act (beginS (ex t) j) j kd k).2 ((act (beginS (ex t) j) j kd k).1.hands j)) (hnext : ex (t + 1) = (post (beginS (ex t) j) j kd k).tick)
    (hinv : Inv (ex (t + 1))) (hainv : AInv (ex (t + 1))) : Tr ex w (t + 1) j := by
  have H := X.tr j hj
  have hjn : j < (ex t).nh := by rw [X.nh]; exact hj
  obtain ⟨d, hd1, hwho, hdeed, Y, hold⟩ := busy_begin X hj hw hd F
  obtain ⟨i, hi⟩ : ∃ i, i = ((ex t).hands j).pos := ⟨_, rfl⟩
  rw [← hi] at hd hd1 hdeed hold
  obtain ⟨B, hB⟩ : ∃ B, B = beginS (ex t) j := ⟨_, rfl⟩
  rw [← hB] at F D hnext hd1 Y hold
  have hBi : (B.hands j).pos = i := by rw [hB, beginS_pos, hi]
  have hBp : (B.hands j).prog = ((ex t).hands j).prog := by rw [hB, beginS_prog]
  have hBnow : B.now = t := by rw [hB, beginS_now, X.now]
  have hasB : ∀ k, Has B k ↔ Has (ex t) k := Has.of (by rw [hB, beginS_nodes]) (by rw [hB, beginS_nn])
  have hasN : ∀ k', Has (ex (t + 1)) k' ↔ Has (post B j kd k) k' := by intro k'; rw [hnext]; exact Has.of (T := post B j kd k) (U := (post B j kd k).tick) rfl rfl k'
  have hx := act_pos B j j kd k
  have hxst := act_st B j kd k (by rw [F.st]; simp)
  have htold1 : (act B j kd k).1.told = B.told := act_told B j kd k
  have hnow1 : (act B j kd k).1.now = t := by rw [act_now, hBnow]
  have gB : Grow B (post B j kd k) := by
    have G := act_good F.I.nodes F.st F.ok F.at'
    unfold post; split
    · exact G.grow.trans ⟨rfl, Nat.le_refl _, fun _ _ => rfl⟩
    · exact G.grow
  have mine : Mine ex w j i t := ⟨hw, hi.symm⟩
  have still : (∀ k', Has (post B j kd k) k' ↔ Has B k') → Still ex t := fun h k' => by rw [hasN, h, hasB]
  have eff : (kd = 1 ∧ ¬ Has B k ∧ Has (post B j kd k) k ∨ kd = 2 ∧ Has B k ∧ ¬ Has (post B j kd k) k) → (∀ k', k' ≠ k → (Has (post B j kd k) k' ↔ Has B k')) → EffAt ex kd k t := by
    intro h1 h2
    refine ⟨?_, fun k' hk => by rw [hasN, h2 k' hk, hasB]⟩
    rw [hasN, ← hasB k]; exact h1
  have hB5 : (B.hands j).pos = i := hBi
  have Yq := Y.quiet
  have Yp := Y.pend
  rw [hBi] at Yq Yp
  -- those that ended ahead
  have doneOld : ∀ (i' : Nat) (d' : Dn), (B.told j)[i']? = some d' → i' < i → ∀ kd' k', ((ex t).hands j).prog[i']? = some (kd', k') → Ended ex w (t + 1) j i' d' kd' k' := by
    intro i' d' h1 h2 kd' k' h3
    refine (H.done i' d' (hold i' d' h1 (by rw [hi] at h2; rw [hi]; exact h2)) (by rw [← hi]; exact h2) kd' k' h3).ext ?_
    rintro ⟨_, e⟩; omega
  have whoB : ∀ (i' : Nat) (d' : Dn), (B.told j)[i']? = some d' → d'.who = j ∧ d'.deed = i' ∧ d'.beg < t + 1 := by
    intro i' d' h1
    by_cases e : i' < i
    · obtain ⟨a, b, c⟩ := H.who i' d' (hold i' d' h1 e); exact ⟨a, b, by omega⟩
    · have hl := (List.getElem?_eq_some_iff.1 h1).1
      have hlen := (F.I.hands j F.lt).told
      rw [if_neg (by rw [F.st]; simp), hBi] at hlen
      have : i' = i := by omega
      subst this
      rw [hd1] at h1; simp only [Option.some.injEq] at h1; subst h1
      exact ⟨hwho, hdeed, by have := Y.beg; omega⟩
  cases hb : (act B j kd k).2 with
  | true =>
    have hh : (ex (t + 1)).hands j = { (act B j kd k).1.hands j with pos := i + 1, st := none } := by
      rw [hnext]; show (post B j kd k).hands j = _
      unfold post; rw [if_pos hb]
      have : (endS (act B j kd k).1 j).hands j = { (act B j kd k).1.hands j with pos := ((act B j kd k).1.hands j).pos + 1, st := none } := hands_setH _ _ _
      rw [this, hx.1, hBi]
    have ht : (ex (t + 1)).told j = (B.told j).set i { d with fin := (t : Int), is := ((act B j kd k).1.hands j).is } := by
      rw [hnext]; show (post B j kd k).told j = _
      unfold post; rw [if_pos hb]
      have : (endS (act B j kd k).1 j).told j = ((act B j kd k).1.told j).modify ((act B j kd k).1.hands j).pos fun d => { d with fin := (act B j kd k).1.now, is := ((act B j kd k).1.hands j).is } := by simp [endS, Sys.setH, Sys.tell]
      rw [this, hx.1, hBi, htold1, modify_set hd1, hnow1]
    have hilt := (List.getElem?_eq_some_iff.1 hd1).1
    refine ⟨?_, ?_, ?_, ?_, ?_⟩
    · intro u hu
      rw [hh]; show _ ≤ i + 1
      by_cases e : u = t + 1
      · subst e; rw [hh]; exact Nat.le_refl _
      · have := H.mono u (by omega); omega
    · intro i' d' h'
      rw [ht] at h'
      by_cases e : i' = i
      · subst e; rw [List.getElem?_set_self hilt] at h'; simp only [Option.some.injEq] at h'; subst h'
        exact ⟨hwho, hdeed, by have := Y.beg; show d.beg < t + 1; omega⟩
      · rw [List.getElem?_set_ne (Ne.symm e)] at h'; exact whoB i' d' h'
    · intro i' d' h' hi' kd' k' hk'
      rw [ht] at h'
      rw [hh] at hi' hk'
      replace hi' : i' < i + 1 := hi'
      replace hk' : ((act B j kd k).1.hands j).prog[i']? = some (kd', k') := hk'
      rw [hx.2, hBp] at hk'
      by_cases e : i' = i
      · subst e; rw [List.getElem?_set_self hilt] at h'; simp only [Option.some.injEq] at h'; subst h'
        rw [hd] at hk'; simp only [Option.some.injEq, Prod.mk.injEq] at hk'; obtain ⟨rfl, rfl⟩ := hk'
        refine ⟨t, rfl, Y.beg, Nat.lt_succ_self _, ?_⟩
        have C := D.came
        rw [hb] at C
        cases C with
        | on hb' => simp at hb'
        | pend hb' => simp at hb'
        | drop _ hs hk hi2 h =>
          obtain ⟨_, x⟩ := Yp hs
          exact .inl ⟨hi2, by omega, x.ext fun _ => still h⟩
        | add _ hs hk hi2 h0 h1 h =>
          exact .inl ⟨hi2, by omega, t, Y.beg, Nat.le_refl _, Nat.lt_succ_self _, mine, eff (.inl ⟨hk, h0, h1⟩) h, fun u' hu hm hne => Yq hs.1 hs.2 u' (by omega) hm⟩
        | cut _ hs hk hi2 h0 h1 h =>
          exact .inl ⟨hi2, by omega, t, Y.beg, Nat.le_refl _, Nat.lt_succ_self _, mine, eff (.inr ⟨hk, h0, h1⟩) h, fun u' hu hm hne => Yq hs.1 hs.2 u' (by omega) hm⟩
        | now _ hs h ha =>
          refine .inr ⟨(Yq hs.1 hs.2).ext fun _ => still h, t + 1, by have := Y.beg; show d.beg < t + 1; omega, Nat.le_refl _, ?_⟩
          have hN : Has (ex (t + 1)) k ↔ Has B k := by rw [hasN, h]
          unfold Ans
          rw [hN]
          exact ha
        | past _ hs h hk hi2 hc =>
          have hs2 : s ≠ .z5 ∧ s ≠ .m3 := by rcases hs with rfl | rfl <;> simp
          refine .inr ⟨(Yq hs2.1 hs2.2).ext fun _ => still h, ?_⟩
          rcases Y.ahead hs with ⟨s', a1, a2, a3⟩ | a
          · refine ⟨s', a1, by omega, ?_⟩
            unfold Ans
            show _ ∨ (_ ∧ ((act B j kd k).1.hands j).is = false ∧ _) ∨ (_ ∧ (((act B j kd k).1.hands j).is = true ↔ _))
            rw [hi2]
            rcases hk with hk | hk
            · exact .inr (.inl ⟨hk, rfl, a3⟩)
            · exact .inr (.inr ⟨hk, by simp [a3]⟩)
          · obtain ⟨p, c, e1, e2, _⟩ := F.at'.on (by rcases hs with rfl | rfl <;> rfl)
            exact absurd (a c e2) (hc c e2)
      · rw [List.getElem?_set_ne (Ne.symm e)] at h'
        exact doneOld i' d' h' (by omega) kd' k' hk'
    · intro _ u hu hwu
      rw [hh]; show _ ≠ i + 1
      by_cases e : u = t
      · subst e; omega
      · have := H.mono u (by omega); omega
    · intro s' hs'; rw [hh] at hs'; simp at hs'
  | false =>
    have hh : (ex (t + 1)).hands j = (act B j kd k).1.hands j := by
      rw [hnext]; show (post B j kd k).hands j = _
      unfold post; rw [if_neg (by rw [hb]; simp)]
    have ht : (ex (t + 1)).told j = B.told j := by
      rw [hnext]; show (post B j kd k).told j = _
      unfold post; rw [if_neg (by rw [hb]; simp), htold1]
    have hpos : ((ex (t + 1)).hands j).pos = i := by rw [hh, hx.1, hBi]
    refine ⟨?_, ?_, ?_, ?_, ?_⟩
    · intro u hu
      rw [hpos]
      by_cases e : u = t + 1
      · subst e; omega
      · have := H.mono u (by omega); omega
    · intro i' d' h'; rw [ht] at h'; exact whoB i' d' h'
    · intro i' d' h' hi' kd' k' hk'
      rw [ht] at h'; rw [hpos] at hi'; rw [hh, hx.2, hBp] at hk'
      exact doneOld i' d' h' hi' kd' k' hk'
    · intro h; rw [hh] at h; exact absurd h hxst
    · intro s' hs' d' hd' kd' k' hk'
      rw [hpos, ht, hd1] at hd'
      simp only [Option.some.injEq] at hd'; subst hd'
      rw [hh, hx.2, hBp, hx.1, hBi, hd] at hk'
      simp only [Option.some.injEq, Prod.mk.injEq] at hk'; obtain ⟨rfl, rfl⟩ := hk'
      rw [hh] at hs'
      have C := D.came
      rw [hb] at C
      have hbeg := Y.beg
      have main : (s' = .z5 ∨ s' = .m3 → kd = 2 ∧ Once ex w (t + 1) j i kd k d.beg t) ∧ (s' ≠ .z5 → s' ≠ .m3 → Quiet ex w (t + 1) j i) ∧ ((∀ k', Has (post B j kd k) k' ↔ Has B k') ∨ (s' = .z5 ∨ s' = .m3)) := by
        cases C with
        | on _ hs hs2 h =>
          rw [hs'] at hs2
          refine ⟨fun h => ?_, fun _ _ => (Yq hs.1 hs.2).ext fun _ => still h, .inl h⟩
          rcases h with rfl | rfl
          · exact absurd rfl hs2.1
          · exact absurd rfl hs2.2
        | pend _ hs hs2 hk hi2 h0 h1 h =>
          rw [hs'] at hs2
          simp only [Option.some.injEq] at hs2
          refine ⟨fun _ => ⟨hk, t, hbeg, Nat.le_refl _, Nat.lt_succ_self _, mine, eff (.inr ⟨hk, h0, h1⟩) h, fun u' hu hm hne => Yq hs.1 hs.2 u' (by omega) hm⟩, fun a b => ?_, .inr hs2⟩
          rcases hs2 with h | h
          · exact absurd h a
          · exact absurd h b
        | drop hb' => simp at hb'
        | add hb' => simp at hb'
        | cut hb' => simp at hb'
        | now hb' => simp at hb'
        | past hb' => simp at hb'
      refine ⟨by omega, Y.fin, fun h => ?_, fun a b => by rw [hpos]; exact main.2.1 a b, fun h => ?_⟩
      · rw [hpos]
        obtain ⟨a, u, x1, x2, x3⟩ := main.1 h
        exact ⟨a, u, x1, by omega, x3⟩
      · have hsame : ∀ k', Has (post B j kd k) k' ↔ Has B k' := by
          rcases main.2.2 with x | x
          · exact x
          · rcases h with rfl | rfl <;> rcases x with x | x <;> simp at x
        have hpost : (post B j kd k).hands j = (act B j kd k).1.hands j := by unfold post; rw [if_neg (by rw [hb]; simp)]
        have N' : NodesOk (ex (t + 1)) := hinv.nodes
        by_cases hhas : Has (ex (t + 1)) k
        · have hhas' := (hasN k).1 hhas
          unfold Ahead
          rw [hh]
          have toN : ∀ {c i : Nat}, Reach (post B j kd k) c i → Reach (ex (t + 1)) c i := fun r => by rw [hnext]; refine Reach.of ?_ ?_ r <;> rfl
          have nnE : (ex (t + 1)).nn = (post B j kd k).nn := by rw [hnext]; rfl
          have ndE : (ex (t + 1)).nodes = (post B j kd k).nodes := by rw [hnext]; rfl
          have look : ∀ c', ((act B j kd k).1.hands j).c = some c' → (∃ s, d.beg < s ∧ s ≤ t + 1 ∧ ¬ Has (ex s) k) ∨ ∃ i, i < (ex (t + 1)).nn ∧ ((ex (t + 1)).nodes i).mark = false ∧ ((ex (t + 1)).nodes i).key = k ∧ Reach (ex (t + 1)) c' i := by
            intro c' hc'
            rcases trav F hb hs' h hc' with ⟨hs0, hn0⟩ | ⟨hss, c, hc, hclt, hcn, hor⟩
            · right
              obtain ⟨i', m1, m2, m3⟩ := hhas
              refine ⟨i', m1, m2, m3, ?_⟩
              have r := hainv.ur i' m1 m2
              have hk0 := F.ok.key.1
              simp only at hk0
              refine r.next (by rintro rfl; rw [N'.head] at m3; omega) ?_
              -- the head's next is as it was
              have hA : (act B j kd k).1.nodes = B.nodes := by
                have hs := F.st
                rcases hs0 with rfl | rfl <;> simp only [act, hs] <;> rfl
              rw [ndE]; unfold post; rw [if_neg (by rw [hb]; simp), hA]; exact hn0
            · have hs1 : s = .z1 ∨ s = .m1 := by rw [hss]; exact h
              rcases Y.ahead hs1 with ⟨s0, a1, a2, a3⟩ | a
              · exact .inl ⟨s0, a1, by omega, a3⟩
              · obtain ⟨i', m1, m2, m3, r⟩ := a c hc
                right
                have hci : c ≠ i' := by
                  rintro rfl
                  rcases hor with x | x
                  · omega
                  · rw [m2] at x; simp at x
                have mk := D.n.keep F.I.nodes F.A.ur gB m1 m2 m3 hhas'
                refine ⟨i', by rw [nnE]; have := D.n.nn; omega, by rw [ndE]; exact mk, by rw [ndE, gB.key i' m1]; exact m3, toN (D.n.reach F.I.nodes (r.next hci hcn) mk)⟩
          by_cases hex : ∃ s, d.beg < s ∧ s ≤ t + 1 ∧ ¬ Has (ex s) k
          · exact .inl hex
          · exact .inr fun c' hc' => (look c' hc').resolve_left hex
        · exact .inl ⟨t + 1, by omega, Nat.le_refl _, hhas⟩

/-- What holds at all times of a run. -/
theorem atTime {T : Nat} (R : RunOk ex w T) : ∀ t, t ≤ T → AtTime ex w t := by
  intro t
  induction t with
  | zero => intro _; exact atTime0 R
  | succ t ih =>
    intro ht
    have X := ih (by omega)
    obtain ⟨hw, hdeed, hstep⟩ := R.step t (by omega)
    obtain ⟨j, hj⟩ : ∃ j, w t = j := ⟨_, rfl⟩
    rw [hj] at hw hdeed hstep
    obtain ⟨⟨kd, k⟩, hd⟩ := Option.isSome_iff_exists.1 hdeed
    have hjn : j < (ex t).nh := by rw [X.nh]; exact hw
    have h4 : (ex t).algo ≠ 4 := by rw [X.algo]; exact R.algo
    obtain ⟨s, F, D⟩ := step_did X.inv X.ainv h4 hjn hd
    have hnext : ex (t + 1) = (post (beginS (ex t) j) j kd k).tick := by rw [hstep, step_eq hd]
    have hinv : Inv (ex (t + 1)) := by rw [hstep]; exact X.inv.step hjn
    have hainv : AInv (ex (t + 1)) := by rw [hnext]; exact D.inv.tick
    have hnow : (ex (t + 1)).now = t + 1 := by rw [hstep, step_now, if_pos hdeed, X.now]
    have G := act_good F.I.nodes F.st F.ok F.at'
    have g : Grow (ex t) (ex (t + 1)) := by
      have e0 : Grow (ex t) (beginS (ex t) j) := ⟨beginS_algo _ _, by rw [beginS_nn]; exact Nat.le_refl _, fun i _ => by rw [beginS_nodes]⟩
      have e1 : Grow (beginS (ex t) j) (post (beginS (ex t) j) j kd k) := by
        unfold post; split
        · exact G.grow.trans ⟨rfl, Nat.le_refl _, fun _ _ => rfl⟩
        · exact G.grow
      rw [hnext]; exact (e0.trans e1).trans ⟨rfl, Nat.le_refl _, fun _ _ => rfl⟩
    have n : NStep (ex t) (ex (t + 1)) := by
      have n1 : NStep (beginS (ex t) j) (ex (t + 1)) := by rw [hnext]; exact D.n.of rfl rfl
      have e1 := beginS_nodes (ex t) j
      have e2 := beginS_nn (ex t) j
      generalize beginS (ex t) j = B at n1 e1 e2
      cases n1 with
      | same hn h => rw [e1, e2] at *; exact .same hn h
      | ins p c k a b d e f1 f2 f3 f4 f5 f6 => rw [e1, e2] at *; exact .ins p c k a b d e f1 f2 f3 f4 f5 f6
      | mark c a b d e f => rw [e1, e2] at *; exact .mark c a b d e f
      | unlink p c a b m d e f1 f2 f3 => rw [e1, e2] at *; exact .unlink p c a b m d e f1 f2 f3
      | cut p c a b d e f1 f2 f3 f4 f5 => rw [e1, e2] at *; exact .cut p c a b d e f1 f2 f3 f4 f5
    have other : ∀ i, i ≠ j → (ex (t + 1)).hands i = (ex t).hands i ∧ (ex (t + 1)).told i = (ex t).told i := by
      intro i hi
      rw [hnext]
      have a := post_others (B := beginS (ex t) j) (kd := kd) (k := k) hi
      have b := beginS_others (ex t) j i hi
      exact ⟨a.1.trans b.1, a.2.trans b.2⟩
    have hprog : ∀ i, ((ex (t + 1)).hands i).prog = ((ex 0).hands i).prog := by
      intro i
      by_cases e : i = j
      · subst e
        rw [← X.prog, hnext]
        show ((post (beginS (ex t) i) i kd k).hands i).prog = _
        rw [← beginS_prog (ex t) i, ← (act_pos (beginS (ex t) i) i i kd k).2]
        unfold post; split
        · have : (endS (act (beginS (ex t) i) i kd k).1 i).hands i = { (act (beginS (ex t) i) i kd k).1.hands i with pos := ((act (beginS (ex t) i) i kd k).1.hands i).pos + 1, st := none } := hands_setH _ _ _
          rw [this]
        · rfl
      · rw [(other i e).1]; exact X.prog i
    refine ⟨hinv, hainv, by rw [g.algo]; exact X.algo, by rw [hstep, step_nh]; exact X.nh, hnow, hprog, fun i hi => ?_⟩
    by_cases e : i = j
    · subst e
      exact Tr.own X R.algo hi hj hd F D hnext hinv hainv
    · exact (X.tr i hi).other (by rw [hj]; exact Ne.symm e) (other i e).1 (other i e).2 X.inv.nodes X.ainv.ur g n
end
end Go.Ha

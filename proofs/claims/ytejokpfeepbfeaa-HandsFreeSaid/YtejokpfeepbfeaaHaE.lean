/-
  Hands: what is left to do: a measure that falls.
  Hands: what is left to do falls with each step of one's own that is no waiting.
  Hands: the measure of all work falls.
  Hands: all deeds end.
  Hands: the begin is sound; a run as a row of steps; its end.
  Hands: there is an order of all deeds.
  Hands: of a whole run there is an order of all deeds.
-/
import Derived.Test.YtejokpfeepbfeaaHaD
import Derived.Test.YtejokpfeepbfeaaHaC
set_option linter.unusedSimpArgs false
set_option linter.unusedVariables false
set_option linter.unnecessarySimpa false
namespace Go.Ha
open Classical

def sumTo : Nat → (Nat → Nat) → Nat
  | 0, _ => 0
  | n + 1, f => sumTo n f + f n

theorem sumTo_le {n : Nat} {f g : Nat → Nat} (h : ∀ i, i < n → f i ≤ g i) : sumTo n f ≤ sumTo n g := by
  induction n with
  | zero => exact Nat.le_refl _
  | succ n ih =>
    have := ih fun i hi => h i (by omega)
    have := h n (by omega)
    simp only [sumTo]; omega

theorem sumTo_add (n : Nat) (f g : Nat → Nat) : sumTo n (fun i => f i + g i) = sumTo n f + sumTo n g := by
  induction n with
  | zero => rfl
  | succ n ih => simp only [sumTo, ih]; omega

theorem sumTo_const (n d : Nat) : sumTo n (fun _ => d) = n * d := by
  induction n with
  | zero => simp [sumTo]
  | succ n ih => simp only [sumTo, ih, Nat.succ_mul]

/-- One of them is turned, the others by no more than d. -/
theorem sumTo_change {n w d : Nat} {f g : Nat → Nat} (hw : w < n) (h : ∀ i, i < n → i ≠ w → f i ≤ g i + d) : sumTo n f + g w ≤ sumTo n g + f w + (n - 1) * d := by
  induction n with
  | zero => omega
  | succ n ih =>
    by_cases e : w = n
    · subst e
      have h2 : sumTo w f ≤ sumTo w (fun i => g i + d) := sumTo_le fun i hi => h i (by omega) (by omega)
      rw [sumTo_add w g (fun _ => d), sumTo_const] at h2
      simp only [sumTo, Nat.add_sub_cancel]; omega
    · have h2 := ih (by omega) fun i hi hne => h i (by omega) hne
      have h3 := h n (by omega) (Ne.symm e)
      obtain ⟨m, rfl⟩ : ∃ m, n = m + 1 := ⟨n - 1, by omega⟩
      simp only [sumTo, Nat.add_sub_cancel, Nat.succ_mul] at h2 h3 ⊢; omega

/-- Marked, and about to be left out by who marked it. -/
def Pend (S : Sys) (i : Nat) : Prop := ∃ j, j < S.nh ∧ (S.hands j).st = some .z5 ∧ (S.hands j).c = some i

/-- Will what the hand saw still hold when it writes? -/
def Fine (S : Sys) (x : Hd) (s : St) (kd : Int) : Prop :=
  ∀ p c, x.p = some p → x.c = some c →
    match s with
    | .z1 | .z2 | .z3 | .z4 => (S.nodes p).next = some c ∧ ((S.nodes p).mark = false ∨ Pend S p) ∧ ((S.nodes c).mark = false ∨ Pend S c)
    | .m1 => (S.nodes p).mark = false ∧ (S.nodes p).next = some c
    | .m2 => (kd = 1 → (S.nodes p).mark = false ∧ (S.nodes p).next = some c) ∧ (kd = 2 → (S.nodes c).mark = false)
    | _ => True

noncomputable def bad (S : Sys) (x : Hd) (s : St) (kd : Int) : Nat := if kd ≠ 3 ∧ ¬ Fine S x s kd then 13 else 0

def kc (S : Sys) (x : Hd) : Nat := (10 - (S.nodes (x.c.getD 0)).key).toNat

noncomputable def cost (S : Sys) (x : Hd) (s : St) (kd : Int) : Nat :=
  match s with
  | .l0 => 23
  | .l1 => 2 * kc S x + 2
  | .l2 => 2 * kc S x + 1
  | .z0 => 14
  | .z1 => max 1 (kc S x) + 3 + bad S x .z1 kd
  | .z2 => 4 + bad S x .z2 kd
  | .z3 => 3 + bad S x .z3 kd
  | .z4 => 2 + bad S x .z4 kd
  | .z5 => 1
  | .m0 => 14
  | .m1 => kc S x + 3 + bad S x .m1 kd
  | .m2 => 2 + bad S x .m2 kd
  | .m3 => 1

def base (algo : Int) : Nat := if algo = 1 then 23 else 14
def left' (x : Hd) : Nat := x.prog.length - x.pos
def kdOf (x : Hd) : Int := ((x.prog[x.pos]?).map (·.1)).getD 0

/-- What hand x has left to do, if no other one comes between. -/
noncomputable def work (S : Sys) (x : Hd) : Nat :=
  match x.st with
  | none => base S.algo * left' x
  | some s => cost S x s (kdOf x) + base S.algo * (left' x - 1)

theorem bad_le (S : Sys) (x : Hd) (s : St) (kd : Int) : bad S x s kd ≤ 13 := by unfold bad; split <;> omega
theorem bad_ok {S : Sys} {x : Hd} {s : St} {kd : Int} (h : kd ≠ 3 → Fine S x s kd) : bad S x s kd = 0 := by
  unfold bad; rw [if_neg]; rintro ⟨a, b⟩; exact b (h a)
theorem bad_is {S : Sys} {x : Hd} {s : St} {kd : Int} (h : kd ≠ 3) (h2 : ¬ Fine S x s kd) : bad S x s kd = 13 := by
  unfold bad; rw [if_pos ⟨h, h2⟩]
theorem bad_mono {S S' : Sys} {x x' : Hd} {s s' : St} {kd : Int} (h : kd ≠ 3 → Fine S x s kd → Fine S' x' s' kd) : bad S' x' s' kd ≤ bad S x s kd := by
  unfold bad
  by_cases a : kd ≠ 3
  · by_cases b : Fine S x s kd
    · rw [if_neg (show ¬ (kd ≠ 3 ∧ ¬ Fine S' x' s' kd) from fun c => c.2 (h a b))]; omega
    · rw [if_pos (show kd ≠ 3 ∧ ¬ Fine S x s kd from ⟨a, b⟩)]; split <;> omega
  · rw [if_neg (show ¬ (kd ≠ 3 ∧ ¬ Fine S' x' s' kd) from fun c => a c.1)]; omega

/-- Cost of a place, whatever the beads' marks: at most 13 more. -/
theorem cost_le {S S' : Sys} {x : Hd} {s : St} {kd : Int} (hk : s.begins = false → kc S' x = kc S x) : cost S' x s kd ≤ cost S x s kd + 13 := by
  have b := fun s => bad_le S' x s kd
  cases s <;> simp only [cost] <;> first | omega | (rw [hk rfl]; have := b .z1; have := b .m1; omega) | (have := b .z2; have := b .z3; have := b .z4; have := b .m2; omega)
theorem cost_mono {S S' : Sys} {x : Hd} {s : St} {kd : Int} (hk : s.begins = false → kc S' x = kc S x) (h : kd ≠ 3 → Fine S x s kd → Fine S' x s kd) : cost S' x s kd ≤ cost S x s kd := by
  have b := bad_mono (S := S) (S' := S') (x := x) (x' := x) (s := s) (s' := s) h
  cases s <;> simp only [cost] <;> first | omega | (rw [hk rfl]; omega) | exact Nat.add_le_add_left b _

section
variable {S : Sys}

theorem work_le {S' : Sys} {x : Hd} (ha : S'.algo = S.algo) (hk : ∀ s, x.st = some s → s.begins = false → kc S' x = kc S x) : work S' x ≤ work S x + 13 := by
  unfold work
  cases h : x.st with
  | none => rw [ha]; simp
  | some s => rw [ha]; have := cost_le (S := S) (S' := S') (x := x) (s := s) (kd := kdOf x) (hk s h); simp only; omega
theorem work_mono {S' : Sys} {x : Hd} (ha : S'.algo = S.algo) (hk : ∀ s, x.st = some s → s.begins = false → kc S' x = kc S x) (hf : ∀ s, x.st = some s → kdOf x ≠ 3 → Fine S x s (kdOf x) → Fine S' x s (kdOf x)) : work S' x ≤ work S x := by
  unfold work
  cases h : x.st with
  | none => rw [ha]; simp
  | some s => rw [ha]; have := cost_mono (S := S) (S' := S') (x := x) (s := s) (kd := kdOf x) (hk s h) (hf s h); simp only; omega

theorem kc_grow {S' : Sys} (I : Inv S) (g : Grow S S') {j : Nat} (hj : j < S.nh) {s : St} (hs : (S.hands j).st = some s) (hb : s.begins = false) : kc S' (S.hands j) = kc S (S.hands j) := by
  obtain ⟨p, c, h1, h2, h3, h4⟩ := AInv.places I hj hs hb
  simp only [kc, h2, Option.getD_some]; rw [g.key c h4]
end
end Go.Ha

namespace Go.Ha
open Classical

/-- The lock that a hand waits for. -/
def wants (S : Sys) (x : Hd) (kd k : Int) : Option Nat :=
  match x.st with
  | none => if S.algo = 1 then some 0 else none
  | some .l0 => some 0
  | some .l1 | some .z3 => x.c
  | some .z2 => x.p
  | some .z1 => if (S.nodes (x.c.getD 0)).key < k ∨ kd = 3 then none else x.p
  | _ => none

def Blocked (S : Sys) (x : Hd) (kd k : Int) : Prop := ∃ n, wants S x kd k = some n ∧ (S.nodes n).lock = true

section
variable {B : Sys} {w : Nat} {kd k : Int} {s : St}

theorem From.kdOf (F : From B w kd k s) : kdOf (B.hands w) = kd := by unfold Go.Ha.kdOf; rw [F.deed]; rfl
theorem From.left (F : From B w kd k s) : 1 ≤ left' (B.hands w) := by
  have := (List.getElem?_eq_some_iff.1 F.deed).1; unfold left'; omega

theorem cost_pos (S : Sys) (x : Hd) (s : St) (kd : Int) : 1 ≤ cost S x s kd := by cases s <;> simp only [cost] <;> omega

/-- A deed done is work done. -/
theorem own_end (F : From B w kd k s) (hb : (act B w kd k).2 = true) : work (post B w kd k) ((post B w kd k).hands w) + 1 ≤ work B (B.hands w) := by
  have hx := act_pos B w w kd k
  have h1 : (post B w kd k).hands w = { (act B w kd k).1.hands w with pos := ((act B w kd k).1.hands w).pos + 1, st := none } := by
    unfold post; rw [if_pos hb]; exact hands_setH _ _ _
  have ha : (post B w kd k).algo = B.algo := by unfold post; rw [if_pos hb]; show (act B w kd k).1.algo = _; exact act_algo B w kd k
  have hl : left' ((post B w kd k).hands w) = left' (B.hands w) - 1 := by rw [h1]; unfold left'; simp only; rw [hx.1, hx.2]; omega
  have e1 : work (post B w kd k) ((post B w kd k).hands w) = base B.algo * (left' (B.hands w) - 1) := by
    unfold work; rw [h1]; simp only; rw [ha, ← hl, h1]
  rw [e1]
  have := cost_pos B (B.hands w) s (Go.Ha.kdOf (B.hands w))
  unfold work; rw [F.st]; simp only; omega

/-- A deed under way: it is the cost that tells. -/
theorem own_on (F : From B w kd k s) (hb : (act B w kd k).2 = false) {s' : St} (hs' : ((act B w kd k).1.hands w).st = some s') {d : Nat} (h : cost (act B w kd k).1 ((act B w kd k).1.hands w) s' kd + d ≤ cost B (B.hands w) s kd) :
    work (post B w kd k) ((post B w kd k).hands w) + d ≤ work B (B.hands w) := by
  have hx := act_pos B w w kd k
  have e : post B w kd k = (act B w kd k).1 := by unfold post; rw [if_neg (by rw [hb]; simp)]
  rw [e]
  have hk : Go.Ha.kdOf ((act B w kd k).1.hands w) = kd := by unfold Go.Ha.kdOf; rw [hx.1, hx.2, F.deed]; rfl
  have hl : left' ((act B w kd k).1.hands w) = left' (B.hands w) := by unfold left'; rw [hx.1, hx.2]
  unfold work
  rw [hs', F.st]
  simp only
  rw [hk, F.kdOf, hl, act_algo]
  omega

/-- Own steps. -/
def Own (B : Sys) (w : Nat) (kd k : Int) : Prop :=
  work (post B w kd k) ((post B w kd k).hands w) + 1 ≤ work B (B.hands w) ∨
  (Blocked B (B.hands w) kd k ∧ work (post B w kd k) ((post B w kd k).hands w) ≤ work B (B.hands w) ∧ (post B w kd k).nodes = B.nodes ∧ (post B w kd k).nn = B.nn ∧ (act B w kd k).2 = false)

theorem own_wait (F : From B w kd k s) (e : act B w kd k = (B, false)) (hbl : Blocked B (B.hands w) kd k) : Own B w kd k := by
  have e2 : post B w kd k = B := by unfold post; rw [e]; rfl
  right
  rw [e2, e]
  exact ⟨hbl, Nat.le_refl _, rfl, rfl, rfl⟩

theorem kc_head (N : NodesOk B) {x : Hd} {T : Sys} (hT : ∀ i, i < B.nn → (T.nodes i).key = (B.nodes i).key) (hx : x.c = (B.nodes 0).next) : kc T x ≤ 10 := by
  obtain ⟨m, h1, h2, h3⟩ := N.headNext
  rw [h1] at hx
  simp only [kc, hx, Option.getD_some]; rw [hT m h2]; omega

theorem kc_next (N : NodesOk B) {x : Hd} {T : Sys} {c : Nat} (hc : c < B.nn) (h9 : (B.nodes c).key ≤ 9) (hT : ∀ i, i < B.nn → (T.nodes i).key = (B.nodes i).key) (hx : x.c = (B.nodes c).next) : kc T x + 1 ≤ (10 - (B.nodes c).key).toNat := by
  obtain ⟨m, h1, h2, h3⟩ := N.some hc h9
  rw [h1] at hx
  have hle := N.le m h2
  simp only [kc, hx, Option.getD_some]; rw [hT m h2]; omega

theorem own_l (F : From B w kd k s) (hl : s = .l0 ∨ s = .l1 ∨ s = .l2) : Own B w kd k := by
  have hs := F.st
  have N := F.I.nodes
  have hk9 := F.ok.key.2
  simp only at hk9
  rcases hl with rfl | rfl | rfl
  · cases hl : (B.nodes 0).lock with
    | true =>
      have e : act B w kd k = (B, false) := by simp only [act, hs]; rw [if_pos hl]
      exact own_wait F e ⟨0, by simp [wants, hs], hl⟩
    | false =>
      obtain ⟨x, hx⟩ : ∃ x, x = { B.hands w with p := some 0, c := (B.nodes 0).next, st := some .l1 } := ⟨_, rfl⟩
      have e : act B w kd k = ((B.lockN 0 true).setH w x, false) := by simp only [act, hs]; rw [if_neg (by rw [hl]; simp), hx]
      left
      refine own_on F (by rw [e]) (s' := .l1) (by rw [e, hx]; simp) ?_
      rw [e]; simp only [hands_setH, cost]
      have := kc_head N (x := x) (T := (B.lockN 0 true).setH w x) (fun i _ => by simp) (by rw [hx])
      omega
  · obtain ⟨p, c, h1, h2, h3, h4, h5, h6, h7⟩ := F.at'.on rfl
    cases hl : (B.nodes c).lock with
    | true =>
      have e : act B w kd k = (B, false) := by simp only [act, hs, h2, Option.getD_some]; rw [if_pos hl]
      exact own_wait F e ⟨c, by simp [wants, hs, h2], hl⟩
    | false =>
      obtain ⟨x, hx⟩ : ∃ x, x = { B.hands w with st := some .l2 } := ⟨_, rfl⟩
      have e : act B w kd k = ((B.lockN c true).setH w x, false) := by simp only [act, hs, h2, Option.getD_some]; rw [if_neg (by rw [hl]; simp), hx]; simp only [h2]
      left
      refine own_on F (by rw [e]) (s' := .l2) (by rw [e, hx]; simp) ?_
      rw [e]; simp only [hands_setH, cost]
      have hxc : x.c = some c := by rw [hx]; exact h2
      have : kc ((B.lockN c true).setH w x) x = kc B (B.hands w) := by simp [kc, h2, hxc]
      omega
  · obtain ⟨p, c, h1, h2, h3, h4, h5, h6, h7⟩ := F.at'.on rfl
    by_cases hlt : (B.nodes c).key < k
    · obtain ⟨x, hx⟩ : ∃ x, x = { B.hands w with p := some c, c := (B.nodes c).next, st := some .l1 } := ⟨_, rfl⟩
      have e : act B w kd k = ((B.lockN p false).setH w x, false) := by
        simp only [act, hs, h1, h2, Option.getD_some]; rw [if_pos hlt, hx]
      left
      refine own_on F (by rw [e]) (s' := .l1) (by rw [e, hx]; simp) ?_
      rw [e]; simp only [hands_setH, cost]
      have := kc_next N (x := x) (T := (B.lockN p false).setH w x) h4 (by omega) (fun i _ => by simp) (by rw [hx])
      have e2 : kc B (B.hands w) = (10 - (B.nodes c).key).toNat := by simp [kc, h2]
      omega
    · left
      refine own_end F ?_
      simp only [act, hs, h1, h2, Option.getD_some]; rw [if_neg hlt]

theorem own_first (F : From B w kd k s) (hs1 : s = .z1 ∨ s = .z2) (he : act B w kd k = (first B w ((B.hands w).p.getD 0), false)) (hw : s = .z1 → ¬ (B.nodes ((B.hands w).c.getD 0)).key < k ∧ kd ≠ 3) : Own B w kd k := by
  have hs := F.st
  obtain ⟨p, c, h1, h2, h3, h4, h5, h6, h7⟩ := F.at'.on (by rcases hs1 with rfl | rfl <;> rfl)
  simp only [h1, Option.getD_some] at he
  have hc : 4 + bad B (B.hands w) .z2 kd ≤ cost B (B.hands w) s kd := by
    rcases hs1 with rfl | rfl
    · have e : bad B (B.hands w) .z1 kd = bad B (B.hands w) .z2 kd := rfl
      simp only [cost]; omega
    · simp only [cost]; omega
  have notz5 : ∀ (T : Sys), T.nh = B.nh → (∀ j, j ≠ w → T.hands j = B.hands j) → ∀ i, Pend B i → Pend T i := by
    intro T hnh ho i ⟨j, hj, j1, j2⟩
    have : j ≠ w := by rintro rfl; rw [hs] at j1; rcases hs1 with rfl | rfl <;> simp at j1
    exact ⟨j, by omega, by rw [ho j this]; exact j1, by rw [ho j this]; exact j2⟩
  cases hl : (B.nodes p).lock with
  | true =>
    obtain ⟨x, hx⟩ : ∃ x, x = { B.hands w with st := some .z2 } := ⟨_, rfl⟩
    have e : first B w p = B.setH w x := by unfold first; rw [if_pos hl, hx]
    rw [e] at he
    right
    refine ⟨⟨p, ?_, hl⟩, ?_, by unfold post; rw [he]; rfl, by unfold post; rw [he]; rfl, by rw [he]⟩
    · rcases hs1 with rfl | rfl
      · have := hw rfl; simp [wants, hs, h1, this.1, this.2]
      · simp [wants, hs, h1]
    · refine own_on F (d := 0) (by rw [he]) (s' := .z2) (by rw [he, hx]; simp) ?_
      rw [he]; simp only [hands_setH]
      have e3 : cost (B.setH w x) x .z2 kd = 4 + bad (B.setH w x) x .z2 kd := rfl
      have : bad (B.setH w x) x .z2 kd ≤ bad B (B.hands w) .z2 kd := by
        refine bad_mono fun _ hf => ?_
        intro p' c' hp hc'
        rw [hx] at hp hc'
        obtain ⟨a, b, c2⟩ := hf p' c' hp hc'
        have pd := notz5 (B.setH w x) rfl (fun j hj => setF_ne _ _ hj)
        exact ⟨a, b.imp id (pd _), c2.imp id (pd _)⟩
      omega
  | false =>
    obtain ⟨x, hx⟩ : ∃ x, x = { B.hands w with st := some .z3 } := ⟨_, rfl⟩
    have e : first B w p = (B.lockN p true).setH w x := by unfold first; rw [if_neg (by rw [hl]; simp), hx]
    rw [e] at he
    left
    refine own_on F (by rw [he]) (s' := .z3) (by rw [he, hx]; simp) ?_
    rw [he]; simp only [hands_setH]
    have e3 : cost ((B.lockN p true).setH w x) x .z3 kd = 3 + bad ((B.lockN p true).setH w x) x .z3 kd := rfl
    have : bad ((B.lockN p true).setH w x) x .z3 kd ≤ bad B (B.hands w) .z2 kd := by
      refine bad_mono fun _ hf => ?_
      intro p' c' hp hc'
      rw [hx] at hp hc'
      obtain ⟨a, b, c2⟩ := hf p' c' hp hc'
      have pd := notz5 ((B.lockN p true).setH w x) rfl (fun j hj => setF_ne _ _ hj)
      simp only [setH_nodes, lockN_next, lockN_mark]
      exact ⟨a, b.imp id (pd _), c2.imp id (pd _)⟩
    omega

/-- Beads that are not marked lead to such, or to those that are about to go. -/
theorem AInv.ahead2 (A : AInv B) (N : NodesOk B) (ha : B.algo = 2) {i m : Nat} (hi : i < B.nn) (hm : (B.nodes i).next = some m) (h : (B.nodes i).mark = false ∨ Pend B i) (I : Inv B) : (B.nodes m).mark = false ∨ Pend B m := by
  rcases h with h | ⟨j, hj, j1, j2⟩
  · cases hmm : (B.nodes m).mark with
    | false => exact .inl rfl
    | true => obtain ⟨j, hj, a, b, c⟩ := A.z ha i hi h m hm hmm; exact .inr ⟨j, hj, a, c⟩
  · obtain ⟨p', c', e1, e2, e3, e4⟩ := AInv.places I hj j1 rfl
    have := (A.z5 j hj j1 p' i e1 j2).2.2 m hm
    exact .inl this

theorem own_z (F : From B w kd k s) (hl : s = .z0 ∨ s = .z1 ∨ s = .z2 ∨ s = .z3 ∨ s = .z4 ∨ s = .z5) : Own B w kd k := by
  have hs := F.st
  have N := F.I.nodes
  have hk9 := F.ok.key.2
  simp only at hk9
  have notz5 : ∀ (T : Sys), s ≠ .z5 → T.nh = B.nh → (∀ j, j ≠ w → T.hands j = B.hands j) → ∀ i, Pend B i → Pend T i := by
    intro T hne hnh ho i ⟨j, hj, j1, j2⟩
    have : j ≠ w := by rintro rfl; rw [hs] at j1; simp only [Option.some.injEq] at j1; exact hne j1
    exact ⟨j, by omega, by rw [ho j this]; exact j1, by rw [ho j this]; exact j2⟩
  rcases hl with rfl | rfl | rfl | rfl | rfl | rfl
  · obtain ⟨x, hx⟩ : ∃ x, x = { B.hands w with p := some 0, c := (B.nodes 0).next, st := some .z1 } := ⟨_, rfl⟩
    have e : act B w kd k = (B.setH w x, false) := by simp only [act, hs]; rw [hx]
    left
    have ha : B.algo = 2 := F.at'.algo
    refine own_on F (by rw [e]) (s' := .z1) (by rw [e, hx]; simp) ?_
    rw [e]; simp only [hands_setH, cost]
    have h1 := kc_head N (x := x) (T := B.setH w x) (fun i _ => by simp) (by rw [hx])
    have h2 : bad (B.setH w x) x .z1 kd = 0 := bad_ok fun _ => by
      intro p c hp hc
      rw [hx] at hp hc
      simp only [Option.some.injEq] at hp; subst hp
      have hc : (B.nodes 0).next = some c := hc
      have mh := F.A.head N
      refine ⟨hc, .inl mh, ?_⟩
      exact (F.A.ahead2 N ha N.first hc (.inl mh) F.I).imp id (notz5 (B.setH w x) (by simp) rfl (fun j hj => setF_ne _ _ hj) c)
    omega
  · obtain ⟨p, c, h1, h2, h3, h4, h5, h6, h7⟩ := F.at'.on rfl
    have ha : B.algo = 2 := F.at'.algo
    by_cases hlt : (B.nodes c).key < k
    · obtain ⟨x, hx⟩ : ∃ x, x = { B.hands w with p := some c, c := (B.nodes c).next } := ⟨_, rfl⟩
      have e : act B w kd k = (B.setH w x, false) := by
        simp only [act, hs, h1, h2, Option.getD_some]; rw [if_pos hlt, hx]; simp only [hs]
      left
      refine own_on F (by rw [e]) (s' := .z1) (by rw [e, hx]; simpa using hs) ?_
      rw [e]; simp only [hands_setH, cost]
      have q1 := kc_next N (x := x) (T := B.setH w x) h4 (by omega) (fun i _ => by simp) (by rw [hx])
      have q2 : kc B (B.hands w) = (10 - (B.nodes c).key).toNat := by simp [kc, h2]
      have q3 : bad (B.setH w x) x .z1 kd ≤ bad B (B.hands w) .z1 kd := bad_mono fun _ hf => by
        obtain ⟨a, b, d⟩ := hf p c h1 h2
        intro p' c' hp hc'
        rw [hx] at hp hc'
        simp only [Option.some.injEq] at hp; subst hp
        have hc' : (B.nodes c).next = some c' := hc'
        have pd := notz5 (B.setH w x) (by simp) rfl (fun j hj => setF_ne _ _ hj)
        exact ⟨hc', d.imp id (pd _), (F.A.ahead2 N ha h4 hc' d F.I).imp id (pd _)⟩
      omega
    · by_cases h3k : kd = 3
      · left
        refine own_end F ?_
        simp only [act, hs, h1, h2, Option.getD_some]; rw [if_neg hlt, if_pos h3k]
      · have e : act B w kd k = (first B w ((B.hands w).p.getD 0), false) := by
          simp only [act, hs, h1, h2, Option.getD_some]; rw [if_neg hlt, if_neg h3k]
        exact own_first F (.inl rfl) e fun _ => by rw [h2]; exact ⟨hlt, h3k⟩
  · have e : act B w kd k = (first B w ((B.hands w).p.getD 0), false) := by simp only [act, hs]
    exact own_first F (.inr rfl) e fun h => by simp at h
  · obtain ⟨p, c, h1, h2, h3, h4, h5, h6, h7⟩ := F.at'.on rfl
    cases hl : (B.nodes c).lock with
    | true =>
      have e : act B w kd k = (B, false) := by simp only [act, hs, h2, Option.getD_some]; rw [if_pos hl]
      exact own_wait F e ⟨c, by simp [wants, hs, h2], hl⟩
    | false =>
      obtain ⟨x, hx⟩ : ∃ x, x = { B.hands w with st := some .z4 } := ⟨_, rfl⟩
      have e : act B w kd k = ((B.lockN c true).setH w x, false) := by simp only [act, hs, h2, Option.getD_some]; rw [if_neg (by rw [hl]; simp), hx]; simp only [h2]
      left
      refine own_on F (by rw [e]) (s' := .z4) (by rw [e, hx]; simp) ?_
      rw [e]; simp only [hands_setH, cost]
      have q3 : bad ((B.lockN c true).setH w x) x .z4 kd ≤ bad B (B.hands w) .z3 kd := bad_mono fun _ hf => by
        intro p' c' hp hc'
        rw [hx] at hp hc'
        obtain ⟨a, b, d⟩ := hf p' c' hp hc'
        have pd := notz5 ((B.lockN c true).setH w x) (by simp) rfl (fun j hj => setF_ne _ _ hj)
        simp only [setH_nodes, lockN_next, lockN_mark]
        exact ⟨a, b.imp id (pd _), d.imp id (pd _)⟩
      omega
  · obtain ⟨p, c, h1, h2, h3, h4, h5, h6, h7⟩ := F.at'.on rfl
    obtain ⟨hk3, hge⟩ : kd ≠ 3 ∧ k ≤ (B.nodes c).key := h7
    have hold : holds (B.hands w) = [p, c] := by unfold holds; rw [hs, h1, h2]; rfl
    cases hf : ((B.nodes p).mark || (B.nodes c).mark || !((B.nodes p).next == some c)) with
    | true =>
      have e : act B w kd k = (((B.lockN p false).lockN c false).setH w { B.hands w with st := some .z0 }, false) := by
        simp only [act, hs, h1, h2, Option.getD_some]; rw [if_pos hf]
      left
      refine own_on F (by rw [e]) (s' := .z0) (by rw [e]; simp) ?_
      rw [e]; simp only [cost]
      rw [bad_is hk3 (S := B) (x := B.hands w) (s := .z4)]
      · omega
      · intro hfi
        obtain ⟨a, b, d⟩ := hfi p c h1 h2
        have no : ∀ i, i ∈ holds (B.hands w) → ¬ Pend B i := by
          rintro i hi ⟨j, hj, j1, j2⟩
          have : i ∈ holds (B.hands j) := by unfold holds; rw [j1]; simp [j2]
          have := F.A.lk.one j w hj F.lt i this hi
          subst this; rw [hs] at j1; simp at j1
        have b' := b.resolve_right (no p (by rw [hold]; simp))
        have d' := d.resolve_right (no c (by rw [hold]; simp))
        simp [a, b', d'] at hf
    | false =>
      have hfn : ¬ ((B.nodes p).mark || (B.nodes c).mark || !((B.nodes p).next == some c)) = true := by rw [hf]; simp
      by_cases hadd : kd = 1
      · left
        refine own_end F ?_
        simp only [act, hs, h1, h2, Option.getD_some]; rw [if_neg hfn, if_pos hadd]
      · by_cases heq : (B.nodes c).key = k
        · have e : act B w kd k = ((B.markN c true).setH w { B.hands w with is := true, st := some .z5 }, false) := by
            simp only [act, hs, h1, h2, Option.getD_some]; rw [if_neg hfn, if_neg hadd, if_pos heq]
          left
          refine own_on F (by rw [e]) (s' := .z5) (by rw [e]; simp) ?_
          rw [e]; simp only [cost]; omega
        · left
          refine own_end F ?_
          simp only [act, hs, h1, h2, Option.getD_some]; rw [if_neg hfn, if_neg hadd, if_neg heq]
  · left
    refine own_end F ?_
    simp only [act, hs]

theorem own_m (F : From B w kd k s) (h4a : B.algo ≠ 4) (hl : s = .m0 ∨ s = .m1 ∨ s = .m2 ∨ s = .m3) : work (post B w kd k) ((post B w kd k).hands w) + 1 ≤ work B (B.hands w) := by
  have hs := F.st
  have N := F.I.nodes
  have hk9 := F.ok.key.2
  simp only at hk9
  rcases hl with rfl | rfl | rfl | rfl
  · obtain ⟨x, hx⟩ : ∃ x, x = { B.hands w with p := some 0, c := (B.nodes 0).next, st := some .m1 } := ⟨_, rfl⟩
    have e : act B w kd k = (B.setH w x, false) := by simp only [act, hs]; rw [hx]
    refine own_on F (by rw [e]) (s' := .m1) (by rw [e, hx]; simp) ?_
    rw [e]; simp only [hands_setH, cost]
    have h1 := kc_head N (x := x) (T := B.setH w x) (fun i _ => by simp) (by rw [hx])
    have h2 : bad (B.setH w x) x .m1 kd = 0 := bad_ok fun _ => by
      intro p c hp hc
      rw [hx] at hp hc
      simp only [Option.some.injEq] at hp; subst hp
      exact ⟨F.A.head N, hc⟩
    omega
  · obtain ⟨p, c, h1, h2, h3, h4, h5, h6, h7⟩ := F.at'.on rfl
    have q2 : kc B (B.hands w) = (10 - (B.nodes c).key).toNat := by simp [kc, h2]
    by_cases hm : (B.nodes c).mark = true ∧ kd ≠ 3
    · by_cases hc : cleanB B p c = true
      · obtain ⟨mp, np⟩ := clean_iff.1 hc
        obtain ⟨x, hx⟩ : ∃ x, x = { B.hands w with c := (B.nodes c).next } := ⟨_, rfl⟩
        have e : act B w kd k = ((B.outN p (B.nodes c).next).setH w x, false) := by
          simp only [act, hs, h1, h2, Option.getD_some]; rw [if_pos hm, if_pos hc, hx]; simp only [hs, h1]; rfl
        refine own_on F (by rw [e]) (s' := .m1) (by rw [e, hx]; simpa using hs) ?_
        rw [e]; simp only [hands_setH, cost]
        have q1 := kc_next N (x := x) (T := (B.outN p (B.nodes c).next).setH w x) h4 (N.mark c h4 hm.1) (fun i _ => by simp) (by rw [hx])
        have q3 : bad ((B.outN p (B.nodes c).next).setH w x) x .m1 kd = 0 := bad_ok fun _ => by
          intro p' c' hp hc'
          rw [hx] at hp hc'
          have hp : (B.hands w).p = some p' := hp
          rw [h1] at hp; simp only [Option.some.injEq] at hp; subst hp
          simp only [setH_nodes, outN_mark, outN_next, if_pos]
          exact ⟨mp, hc'⟩
        omega
      · have e : act B w kd k = (B.setH w { B.hands w with st := some .m0 }, false) := by
          simp only [act, hs, h1, h2, Option.getD_some]; rw [if_pos hm, if_neg hc]
        refine own_on F (by rw [e]) (s' := .m0) (by rw [e]; simp) ?_
        rw [e]; simp only [cost]
        rw [bad_is hm.2 (S := B) (x := B.hands w) (s := .m1)]
        · omega
        · intro hfi
          exact hc (clean_iff.2 (hfi p c h1 h2))
    · by_cases hlt : (B.nodes c).key < k
      · obtain ⟨x, hx⟩ : ∃ x, x = { B.hands w with p := some c, c := (B.nodes c).next } := ⟨_, rfl⟩
        have e : act B w kd k = (B.setH w x, false) := by
          simp only [act, hs, h1, h2, Option.getD_some]; rw [if_neg hm, if_pos hlt, hx]; simp only [hs]
        refine own_on F (by rw [e]) (s' := .m1) (by rw [e, hx]; simpa using hs) ?_
        rw [e]; simp only [hands_setH, cost]
        have q1 := kc_next N (x := x) (T := B.setH w x) h4 (by omega) (fun i _ => by simp) (by rw [hx])
        have q3 : bad (B.setH w x) x .m1 kd = 0 := bad_ok fun hk3 => by
          intro p' c' hp hc'
          rw [hx] at hp hc'
          simp only [Option.some.injEq] at hp; subst hp
          refine ⟨?_, hc'⟩
          show (B.nodes c).mark = false
          cases h : (B.nodes c).mark with
          | false => rfl
          | true => exact absurd ⟨h, hk3⟩ hm
        omega
      · by_cases h3k : kd = 3
        · refine own_end F ?_
          simp only [act, hs, h1, h2, Option.getD_some]; rw [if_neg hm, if_neg hlt, if_pos h3k]
        · by_cases hq : (((B.nodes c).key == k) == (kd == 1)) = true
          · refine own_end F ?_
            simp only [act, hs, h1, h2, Option.getD_some]; rw [if_neg hm, if_neg hlt, if_neg h3k, if_pos hq]
          · obtain ⟨x, hx⟩ : ∃ x, x = { B.hands w with st := some .m2 } := ⟨_, rfl⟩
            have e : act B w kd k = (B.setH w x, false) := by
              simp only [act, hs, h1, h2, Option.getD_some]; rw [if_neg hm, if_neg hlt, if_neg h3k, if_neg hq, hx]; simp only [h1, h2]
            refine own_on F (by rw [e]) (s' := .m2) (by rw [e, hx]; simp) ?_
            rw [e]; simp only [hands_setH, cost]
            have q3 : bad (B.setH w x) x .m2 kd ≤ bad B (B.hands w) .m1 kd := bad_mono fun _ hf => by
              intro p' c' hp hc'
              rw [hx] at hp hc'
              refine ⟨fun _ => hf p' c' hp hc', fun _ => ?_⟩
              have hc' : (B.hands w).c = some c' := hc'
              rw [h2] at hc'; simp only [Option.some.injEq] at hc'; subst hc'
              show (B.nodes c).mark = false
              cases h : (B.nodes c).mark with
              | false => rfl
              | true => exact absurd ⟨h, h3k⟩ hm
            omega
  · obtain ⟨p, c, h1, h2, h3, h4, h5, h6, h7⟩ := F.at'.on rfl
    have h8 : (kd = 1 ∧ k < (B.nodes c).key) ∨ (kd = 2 ∧ (B.nodes c).key = k) := h7
    by_cases hins : kd = 1 ∧ (B.algo = 4 ∨ cleanB B p c = true)
    · refine own_end F ?_
      simp only [act, hs, h1, h2, Option.getD_some]; rw [if_pos hins]
    · by_cases hn : kd = 2 ∧ B.algo = 4
      · exact absurd hn.2 h4a
      · by_cases hcut : kd = 2 ∧ (B.nodes c).mark = false
        · have e : act B w kd k = ((B.markN c true).setH w { B.hands w with is := true, st := some .m3 }, false) := by
            simp only [act, hs, h1, h2, Option.getD_some]; rw [if_neg hins, if_neg hn, if_pos hcut]
          refine own_on F (by rw [e]) (s' := .m3) (by rw [e]; simp) ?_
          rw [e]; simp only [cost]; omega
        · have e : act B w kd k = (B.setH w { B.hands w with st := some .m0 }, false) := by
            simp only [act, hs, h1, h2, Option.getD_some]; rw [if_neg hins, if_neg hn, if_neg hcut]
          refine own_on F (by rw [e]) (s' := .m0) (by rw [e]; simp) ?_
          rw [e]; simp only [cost]
          rw [bad_is (by omega) (S := B) (x := B.hands w) (s := .m2)]
          · omega
          · intro hfi
            obtain ⟨a, b⟩ := hfi p c h1 h2
            rcases h8 with ⟨h8, _⟩ | ⟨h8, _⟩
            · exact hins ⟨h8, .inr (clean_iff.2 (a h8))⟩
            · exact hcut ⟨h8, b h8⟩
  · refine own_end F ?_
    simp only [act, hs]

theorem own (F : From B w kd k s) (h4 : B.algo ≠ 4) : Own B w kd k := by
  cases s with
  | l0 | l1 | l2 => exact own_l F (by simp)
  | z0 | z1 | z2 | z3 | z4 | z5 => exact own_z F (by simp)
  | m0 | m1 | m2 | m3 => exact .inl (own_m F h4 (by simp))
end
end Go.Ha

namespace Go.Ha
open Classical

/-- Marked beads in the list. -/
noncomputable def hung (S : Sys) : Nat := sumTo S.nn fun i => if (S.nodes i).mark = true ∧ Reach S 0 i then 1 else 0

def ext (algo : Int) (x : Hd) : Nat := if algo = 2 then 39 * left' x else if algo = 3 then 78 * (left' x - (if x.st = some .m3 then 1 else 0)) else 0

noncomputable def total (S : Sys) : Nat := sumTo S.nh (fun j => work S (S.hands j) + ext S.algo (S.hands j)) + (if S.algo = 3 then 39 * hung S else 0)

section
variable {S S' : Sys}

/-- Old beads are reached by old ways. -/
theorem NStep.back (n : NStep S S') (N : NodesOk S) {a i : Nat} (h : Reach S' a i) (hi : i < S.nn) : (a < S.nn → Reach S a i) ∧ (a = S.nn → ∀ c, (S'.nodes S.nn).next = some c → c < S.nn → Reach S c i) := by
  induction h with
  | refl i => exact ⟨fun _ => .refl _, fun h => by omega⟩
  | @step x y z hx e r ih =>
    obtain ⟨i1, i2⟩ := ih hi
    refine ⟨fun hxs => ?_, fun hxs c hc hcl => ?_⟩
    · cases n with
      | same hn g => rw [(g x hxs).1] at e; exact .step hxs e (i1 (N.next x hxs y e).1)
      | ins p c k hp hc mp np k1 k2 hn new np' g =>
        by_cases hxp : x = p
        · subst hxp
          rw [np'] at e; simp only [Option.some.injEq] at e
          exact .step hxs np (i2 e.symm c new.2.1 hc)
        · rw [(g x hxs).2 hxp] at e; exact .step hxs e (i1 (N.next x hxs y e).1)
      | mark c _ _ hn _ g => rw [(g x hxs).1] at e; exact .step hxs e (i1 (N.next x hxs y e).1)
      | unlink p c hp hc mp np mc hn np' g =>
        by_cases hxp : x = p
        · subst hxp
          rw [np'] at e
          exact .step hxs np (.step hc e (i1 (N.next c hc y e).1))
        · rw [(g x hxs).2 hxp] at e; exact .step hxs e (i1 (N.next x hxs y e).1)
      | cut p c hp hc mp np mc hn np' mc' g =>
        by_cases hxp : x = p
        · subst hxp
          rw [np'] at e
          exact .step hxs np (.step hc e (i1 (N.next c hc y e).1))
        · rw [(g x hxs).2 hxp] at e; exact .step hxs e (i1 (N.next x hxs y e).1)
    · subst hxs; rw [hc] at e; simp only [Option.some.injEq] at e; subst e; exact i1 hcl

theorem hung_le (N : NodesOk S) (n : NStep S S') : hung S' ≤ hung S + 1 ∧ ((∀ i, i < S.nn → (S'.nodes i).mark = (S.nodes i).mark) → hung S' ≤ hung S) := by
  have r : ∀ i, i < S.nn → Reach S' 0 i → Reach S 0 i := fun i hi h => (n.back N h hi).1 N.first
  have fresh : ∀ i, S.nn ≤ i → i < S'.nn → (S'.nodes i).mark = false := by
    intro i h1 h2
    cases n with
    | same hn => omega
    | ins p c k hp hc mp np k1 k2 hn new np' g =>
      have : i = S.nn := by omega
      subst this; exact new.2.2
    | mark c _ _ hn => omega
    | unlink p c _ _ _ _ _ hn => omega
    | cut p c _ _ _ _ _ hn => omega
  have hle : hung S' ≤ sumTo S.nn (fun i => if (S'.nodes i).mark = true ∧ Reach S' 0 i then 1 else 0) := by
    have key : ∀ m, S.nn ≤ m → m ≤ S'.nn → sumTo m (fun i => if (S'.nodes i).mark = true ∧ Reach S' 0 i then 1 else 0) = sumTo S.nn (fun i => if (S'.nodes i).mark = true ∧ Reach S' 0 i then 1 else 0) := by
      intro m
      induction m with
      | zero => 
        intro h1 h2
        have : S.nn = 0 := by omega
        rw [this]
      | succ m ih =>
        intro h1 h2
        by_cases e : S.nn = m + 1
        · rw [e]
        · have := ih (by omega) (by omega)
          simp only [sumTo, this]
          rw [if_neg (by rw [fresh m (by omega) (by omega)]; simp)]
          simp
    exact Nat.le_of_eq (key S'.nn n.nn (Nat.le_refl _))
  have same : (∀ i, i < S.nn → (S'.nodes i).mark = (S.nodes i).mark) → hung S' ≤ hung S := by
    intro hm
    refine Nat.le_trans hle (sumTo_le fun i hi => ?_)
    by_cases h : (S'.nodes i).mark = true ∧ Reach S' 0 i
    · rw [if_pos h, if_pos ⟨by rw [← hm i hi]; exact h.1, r i hi h.2⟩]; exact Nat.le_refl _
    · rw [if_neg h]; omega
  refine ⟨?_, same⟩
  have one : ∀ c, (∀ i, i < S.nn → i ≠ c → (S'.nodes i).mark = (S.nodes i).mark) → c < S.nn → hung S' ≤ hung S + 1 := by
    intro c hm hc
    have := sumTo_change (n := S.nn) (w := c) (d := 0) (f := fun i => if (S'.nodes i).mark = true ∧ Reach S' 0 i then 1 else 0) (g := fun i => if (S.nodes i).mark = true ∧ Reach S 0 i then 1 else 0) hc (fun i hi hne => by
      by_cases h : (S'.nodes i).mark = true ∧ Reach S' 0 i
      · try simp only
        rw [if_pos h, if_pos ⟨by rw [← hm i hi hne]; exact h.1, r i hi h.2⟩]; omega
      · try simp only
        rw [if_neg h]; omega)
    have h1 : (if (S'.nodes c).mark = true ∧ Reach S' 0 c then 1 else 0) ≤ 1 := by split <;> omega
    try simp only at this
    unfold hung at *
    omega
  cases n with
  | same hn g => exact Nat.le_succ_of_le (same fun i hi => (g i hi).2)
  | ins p c k hp hc mp np k1 k2 hn new np' g => exact Nat.le_succ_of_le (same fun i hi => (g i hi).1)
  | mark c hc _ hn _ g => exact one c (fun i hi hne => (g i hi).2 hne) hc
  | unlink p c _ _ _ _ _ hn _ g => exact Nat.le_succ_of_le (same fun i hi => (g i hi).1)
  | cut p c hp hc mp np mc hn np' mc' g => exact one c (fun i hi hne => (g i hi).1 hne) hc

/-- One is left out: one fewer hangs. -/
theorem hung_out (N : NodesOk S) (U : UR S) {p c : Nat} (hp : p < S.nn) (hc : c < S.nn) (mp : (S.nodes p).mark = false) (np : (S.nodes p).next = some c) (mc : (S.nodes c).mark = true) (hn : S'.nn = S.nn) (np' : (S'.nodes p).next = (S.nodes c).next)
    (h : ∀ i, i < S.nn → (S'.nodes i).mark = (S.nodes i).mark ∧ (i ≠ p → (S'.nodes i).next = (S.nodes i).next)) : hung S' + 1 ≤ hung S := by
  have n : NStep S S' := .unlink p c hp hc mp np mc hn np' h
  have r : ∀ i, i < S.nn → Reach S' 0 i → Reach S 0 i := fun i hi h => (n.back N h hi).1 N.first
  have rp := U p hp mp
  have rc : Reach S 0 c := rp.trans (.step hp np (.refl _))
  have hpc := (N.next p hp c np).2
  have no : ¬ Reach S' 0 c := by
    intro rr
    -- the one ahead of c
    have : ∀ a b, Reach S' a b → b = c → a < S.nn → Reach S' 0 a → a = c ∨ ∃ y, y < S.nn ∧ Reach S' 0 y ∧ (S'.nodes y).next = some c := by
      intro a b hab
      induction hab with
      | refl => intro e _ _; exact .inl e
      | @step x y z hx e r2 ih =>
        intro hb hxs hr
        have hys : y < S.nn := by
          by_cases hxp : x = p
          · subst hxp; rw [np'] at e; exact (N.next c hc y e).1
          · rw [(h x hxs).2 hxp] at e; exact (N.next x hxs y e).1
        have hr2 : Reach S' 0 y := hr.trans (.step hx e (.refl _))
        rcases ih hb hys hr2 with h1 | h1
        · subst h1; exact .inr ⟨x, hxs, hr, e⟩
        · exact .inr h1
    rcases this 0 c rr rfl N.first (.refl _) with h0 | ⟨y, hy, ry, ey⟩
    · subst h0; have := N.head; rcases rp.key N with e | e
      · subst e; omega
      · omega
    · by_cases hyp : y = p
      · subst hyp; rw [np'] at ey; have := (N.next c hc c ey).2; omega
      · rw [(h y hy).2 hyp] at ey
        exact hyp ((r y hy ry).ahead N rp ey np)
  have := sumTo_change (n := S.nn) (w := c) (d := 0) (f := fun i => if (S'.nodes i).mark = true ∧ Reach S' 0 i then 1 else 0) (g := fun i => if (S.nodes i).mark = true ∧ Reach S 0 i then 1 else 0) hc (fun i hi hne => by
    by_cases hh : (S'.nodes i).mark = true ∧ Reach S' 0 i
    · try simp only
      rw [if_pos hh, if_pos ⟨by rw [← (h i hi).1]; exact hh.1, r i hi hh.2⟩]; omega
    · try simp only
      rw [if_neg hh]; omega)
  try simp only at this
  rw [if_pos ⟨mc, rc⟩, if_neg (fun hh => no hh.2)] at this
  unfold hung
  rw [hn]
  omega
end

section
variable {B : Sys} {w : Nat} {kd k : Int} {s : St}

theorem post_algo (B : Sys) (w : Nat) (kd k : Int) : (post B w kd k).algo = B.algo := by
  unfold post; split
  · show (act B w kd k).1.algo = _; exact act_algo B w kd k
  · exact act_algo B w kd k
theorem post_nh (B : Sys) (w : Nat) (kd k : Int) : (post B w kd k).nh = B.nh := by
  unfold post; split
  · show (act B w kd k).1.nh = _; exact act_nh B w kd k
  · exact act_nh B w kd k
theorem post_grow (F : From B w kd k s) : Grow B (post B w kd k) := by
  have G := act_good F.I.nodes F.st F.ok F.at'
  unfold post; split
  · exact G.grow.trans ⟨rfl, Nat.le_refl _, fun _ _ => rfl⟩
  · exact G.grow

/-- Those that look twice: as long as no deed ends, what others saw holds. -/
theorem lazy_others (F : From B w kd k s) (ha : B.algo = 2) (hb : (act B w kd k).2 = false) :
    ((∀ i, ((post B w kd k).nodes i).next = (B.nodes i).next ∧ ((post B w kd k).nodes i).mark = (B.nodes i).mark) ∧ s ≠ .z5) ∨
    ∃ c, (∀ i, ((post B w kd k).nodes i).next = (B.nodes i).next ∧ ((post B w kd k).nodes i).mark = if i = c then true else (B.nodes i).mark) ∧ Pend (post B w kd k) c ∧ s ≠ .z5 := by
  have hs := F.st
  have hp : post B w kd k = (act B w kd k).1 := by unfold post; rw [if_neg (by rw [hb]; simp)]
  rw [hp]
  have hal := F.at'.algo
  cases s with
  | l0 | l1 | l2 => have : B.algo = 1 := hal; omega
  | m0 | m1 | m2 | m3 => have : B.algo ≠ 1 ∧ B.algo ≠ 2 := hal; omega
  | z0 => left; simp only [act, hs]; exact ⟨fun i => ⟨rfl, rfl⟩, by simp⟩
  | z1 =>
    left
    refine ⟨?_, by simp⟩
    simp only [act, hs] at hb ⊢
    split
    · exact fun i => ⟨rfl, rfl⟩
    · rename_i h; rw [if_neg h] at hb
      split
      · rename_i h; rw [if_pos h] at hb; simp at hb
      · unfold first; split <;> (intro i; simp)
  | z2 =>
    left
    refine ⟨?_, by simp⟩
    simp only [act, hs, first]
    split <;> (intro i; simp)
  | z3 =>
    left
    refine ⟨?_, by simp⟩
    simp only [act, hs]
    split <;> (intro i; simp)
  | z4 =>
    obtain ⟨p, c, h1, h2, h3, h4, h5, h6, h7⟩ := F.at'.on rfl
    simp only [act, hs, h1, h2, Option.getD_some] at hb ⊢
    split
    · left; exact ⟨fun i => by simp, by simp⟩
    · rename_i h; rw [if_neg h] at hb
      split
      · rename_i h; rw [if_pos h] at hb; simp at hb
      · rename_i h; rw [if_neg h] at hb
        split
        · right
          refine ⟨c, fun i => by simp, ⟨w, F.lt, by simp, by simp [h2]⟩, by simp⟩
        · rename_i h; rw [if_neg h] at hb; simp at hb
  | z5 => simp only [act, hs] at hb; simp at hb

theorem left_post_end (hb : (act B w kd k).2 = true) : left' ((post B w kd k).hands w) = left' (B.hands w) - 1 ∧ ((post B w kd k).hands w).st = none := by
  have hx := act_pos B w w kd k
  have h1 : (post B w kd k).hands w = { (act B w kd k).1.hands w with pos := ((act B w kd k).1.hands w).pos + 1, st := none } := by
    unfold post; rw [if_pos hb]; exact hands_setH _ _ _
  rw [h1]; unfold left'; simp only; rw [hx.1, hx.2]; exact ⟨by omega, trivial⟩
theorem left_post_on (hb : (act B w kd k).2 = false) : left' ((post B w kd k).hands w) = left' (B.hands w) ∧ (post B w kd k).hands w = (act B w kd k).1.hands w := by
  have hx := act_pos B w w kd k
  have h1 : (post B w kd k).hands w = (act B w kd k).1.hands w := by
    unfold post; rw [if_neg (by rw [hb]; simp)]
  rw [h1]; unfold left'; rw [hx.1, hx.2]; exact ⟨rfl, rfl⟩

/-- The sum over all hands, when hand w steps. -/
theorem sum_step {f g : Nat → Nat} (hw : w < B.nh) (hnh : B.nh ≤ 4) {d : Nat} (hd : d ≤ 13) (ho : ∀ i, i < B.nh → i ≠ w → f i ≤ g i + d) : sumTo B.nh f + g w ≤ sumTo B.nh g + f w + 3 * d := by
  have := sumTo_change hw ho
  have h2 : (B.nh - 1) * d ≤ 3 * d := Nat.mul_le_mul_right d (by omega)
  omega

/-- A step of those that look twice, or go hand over hand, or mark: the measure falls, or the hand waits. -/
theorem total_post (F : From B w kd k s) (h4 : B.algo ≠ 4) (hnh : B.nh ≤ 4) :
    total (post B w kd k) + 1 ≤ total B ∨ (Blocked B (B.hands w) kd k ∧ total (post B w kd k) ≤ total B ∧ (post B w kd k).nodes = B.nodes ∧ (post B w kd k).nn = B.nn ∧ B.algo ≠ 3) := by
  have D := did F h4
  have O := own F h4
  have g := post_grow F
  have hl1 := F.left
  obtain ⟨P, hP⟩ : ∃ P, P = post B w kd k := ⟨_, rfl⟩
  have hal : P.algo = B.algo := by rw [hP]; exact post_algo B w kd k
  have hnhP : P.nh = B.nh := by rw [hP]; exact post_nh B w kd k
  have hoth : ∀ i, i ≠ w → P.hands i = B.hands i := fun i hi => by rw [hP]; exact (post_others hi).1
  have kcs : ∀ i, i < B.nh → ∀ t, (B.hands i).st = some t → t.begins = false → kc P (B.hands i) = kc B (B.hands i) := fun i hi t ht hb => by rw [hP]; exact kc_grow F.I g hi ht hb
  have any : ∀ i, i < B.nh → i ≠ w → work P (P.hands i) + ext P.algo (P.hands i) ≤ work B (B.hands i) + ext B.algo (B.hands i) + 13 := by
    intro i hi hne
    rw [hoth i hne, hal]
    have := work_le (S := B) (S' := P) (x := B.hands i) hal (kcs i hi)
    omega
  have calm : (∀ i, i < B.nh → i ≠ w → ∀ t, (B.hands i).st = some t → kdOf (B.hands i) ≠ 3 → Fine B (B.hands i) t (kdOf (B.hands i)) → Fine P (B.hands i) t (kdOf (B.hands i))) →
      ∀ i, i < B.nh → i ≠ w → work P (P.hands i) + ext P.algo (P.hands i) ≤ work B (B.hands i) + ext B.algo (B.hands i) + 0 := by
    intro hf i hi hne
    rw [hoth i hne, hal]
    have := work_mono (S := B) (S' := P) (x := B.hands i) hal (kcs i hi) (hf i hi hne)
    omega
  have sumEq : sumTo P.nh (fun j => work P (P.hands j) + ext P.algo (P.hands j)) = sumTo B.nh (fun j => work P (P.hands j) + ext P.algo (P.hands j)) := by rw [hnhP]
  have s13 := sum_step (B := B) (f := fun j => work P (P.hands j) + ext P.algo (P.hands j)) (g := fun j => work B (B.hands j) + ext B.algo (B.hands j)) F.lt hnh (d := 13) (by omega) any
  have s0 := fun hf => sum_step (B := B) (f := fun j => work P (P.hands j) + ext P.algo (P.hands j)) (g := fun j => work B (B.hands j) + ext B.algo (B.hands j)) F.lt hnh (d := 0) (by omega) (calm hf)
  try simp only at s13 s0
  unfold Own at O
  rw [← hP] at O D ⊢
  have le := left_post_end (B := B) (w := w) (kd := kd) (k := k)
  have lo := left_post_on (B := B) (w := w) (kd := kd) (k := k)
  rw [← hP] at le lo
  unfold total
  rw [sumEq, hal]
  by_cases a3 : B.algo = 3
  · -- those that mark
    left
    have hown : work P (P.hands w) + 1 ≤ work B (B.hands w) := by
      rcases O with h | ⟨⟨n, hn, _⟩, _⟩
      · exact h
      · exfalso
        have := F.at'.algo
        unfold wants at hn
        rw [F.st] at hn
        have hst := F.st
        cases s with
        | l0 | l1 | l2 => have : B.algo = 1 := this; omega
        | z0 | z1 | z2 | z3 | z4 | z5 => have : B.algo = 2 := this; omega
        | m0 | m1 | m2 | m3 => simp at hn
    have hu := hung_le F.I.nodes D.n
    rw [if_pos a3, if_pos a3]
    have ex : ∀ x : Hd, ext B.algo x = 78 * (left' x - (if x.st = some .m3 then 1 else 0)) := fun x => by unfold ext; rw [if_neg (by omega), if_pos a3]
    simp only [hal] at s13 s0 any
    have exw := ex (P.hands w)
    have exb := ex (B.hands w)
    rw [F.st] at exb
    -- what is left does not grow
    have hext : ext B.algo (P.hands w) ≤ ext B.algo (B.hands w) := by
      rw [exw, exb]
      cases hb : (act B w kd k).2 with
      | true =>
        obtain ⟨a, b⟩ := le hb
        rw [a, b]
        have h0 : (if (none : Option St) = some St.m3 then 1 else 0) = 0 := rfl
        rw [h0]
        have h1 : (if some s = some St.m3 then 1 else 0) ≤ 1 := by split <;> omega
        have : left' (B.hands w) - 1 - 0 ≤ left' (B.hands w) - (if some s = some St.m3 then 1 else 0) := by omega
        exact Nat.mul_le_mul_left 78 this
      | false =>
        obtain ⟨a, b⟩ := lo hb
        rw [a]
        have hsn : s ≠ .m3 := by
          rintro rfl
          have hs := F.st
          simp only [act, hs] at hb; simp at hb
        have h1 : (if some s = some St.m3 then 1 else 0) = 0 := if_neg (by simpa using hsn)
        rw [h1]
        exact Nat.mul_le_mul_left 78 (by omega)
    have drop78 : ((act B w kd k).2 = true ∧ s ≠ .m3) ∨ ((act B w kd k).2 = false ∧ ((act B w kd k).1.hands w).st = some .m3) → ext B.algo (P.hands w) + 78 ≤ ext B.algo (B.hands w) := by
      intro h
      rw [exw, exb]
      rcases h with ⟨hb, hsn⟩ | ⟨hb, hst⟩
      · obtain ⟨a, b⟩ := le hb
        rw [a, b]
        have h0 : (if (none : Option St) = some St.m3 then 1 else 0) = 0 := rfl
        have h1 : (if some s = some St.m3 then 1 else 0) = 0 := if_neg (by simpa using hsn)
        rw [h0, h1]; omega
      · obtain ⟨a, b⟩ := lo hb
        rw [a, b, hst]
        have h0 : (if some St.m3 = some St.m3 then 1 else 0) = 1 := if_pos rfl
        have hsn : s ≠ .m3 := by
          rintro rfl
          have hs := F.st
          simp only [act, hs] at hb; simp at hb
        have h1 : (if some s = some St.m3 then 1 else 0) = 0 := if_neg (by simpa using hsn)
        rw [h0, h1]; omega
    -- who marks a bead
    have gone : (∃ k', Has B k' ∧ ¬ Has P k') → ext B.algo (P.hands w) + 78 ≤ ext B.algo (B.hands w) := by
      rintro ⟨k', h1, h2⟩
      refine drop78 ?_
      cases D.came with
      | on _ _ _ h => exact absurd ((h k').2 h1) h2
      | pend hb hs hs' hk hi h0 h1' h =>
        right
        refine ⟨hb, ?_⟩
        rcases hs' with x | x
        · exfalso
          have := (act_good F.I.nodes F.st F.ok F.at').at' hb
          obtain ⟨t, t1, t2⟩ := this
          rw [x] at t1; simp only [Option.some.injEq] at t1; subst t1
          have : (act B w kd k).1.algo = 2 := t2.algo
          rw [act_algo] at this; omega
        · exact x
      | drop _ _ _ _ h => exact absurd ((h k').2 h1) h2
      | add hb hs hk hi h0 h1' h =>
        by_cases e : k' = k
        · subst e; exact absurd h1 h0
        · exact absurd ((h k' e).2 h1) h2
      | cut hb hs => exact .inl ⟨hb, hs.2⟩
      | now _ _ h => exact absurd ((h k').2 h1) h2
      | past _ _ h => exact absurd ((h k').2 h1) h2
    have come : (∃ k', ¬ Has B k' ∧ Has P k') → ext B.algo (P.hands w) + 78 ≤ ext B.algo (B.hands w) := by
      rintro ⟨k', h1, h2⟩
      refine drop78 ?_
      cases D.came with
      | on _ _ _ h => exact absurd ((h k').1 h2) h1
      | pend hb hs hs' hk hi h0 h1' h =>
        by_cases e : k' = k
        · subst e; exact absurd h2 h1'
        · exact absurd ((h k' e).1 h2) h1
      | drop _ _ _ _ h => exact absurd ((h k').1 h2) h1
      | add hb hs => exact .inl ⟨hb, hs.2⟩
      | cut hb hs => exact .inl ⟨hb, hs.2⟩
      | now _ _ h => exact absurd ((h k').1 h2) h1
      | past _ _ h => exact absurd ((h k').1 h2) h1
    cases D.n with
    | same hn gg =>
      have hm := hu.2 fun i hi => (gg i hi).2
      have := s0 (by
        intro i hi hne t ht hk3 hf p c hp hc
        have := (F.I.hands i hi).at' t ht
        obtain ⟨kd', k', _, hat⟩ := this
        have hat2 := hat.algo
        have hff := hf p c hp hc
        cases t with
        | l0 | l1 | l2 => have : B.algo = 1 := hat2; omega
        | z0 | z1 | z2 | z3 | z4 | z5 => have : B.algo = 2 := hat2; omega
        | m0 | m3 => trivial
        | m1 =>
          obtain ⟨p', c', e1, e2, e3, e4⟩ := AInv.places F.I hi ht rfl
          rw [e1] at hp; rw [e2] at hc; simp only [Option.some.injEq] at hp hc; subst hp; subst hc
          simp only at hff ⊢
          rw [(gg p' e3).1, (gg p' e3).2]; exact hff
        | m2 =>
          obtain ⟨p', c', e1, e2, e3, e4⟩ := AInv.places F.I hi ht rfl
          rw [e1] at hp; rw [e2] at hc; simp only [Option.some.injEq] at hp hc; subst hp; subst hc
          simp only at hff ⊢
          rw [(gg p' e3).1, (gg p' e3).2, (gg c' e4).2]; exact hff)
      omega
    | ins p c kk hp hc mp np k1 k2 hn new np' gg =>
      have hm := hu.2 fun i hi => (gg i hi).1
      have hput := Has.put F.I.nodes F.A.ur (hP ▸ g) hp mp np k1 k2 hn new fun i hi => (gg i hi).1
      have := come ⟨kk, hput.1, hput.2.1⟩
      omega
    | mark c hc mc hn mc' gg =>
      have hm := hu.1
      have hput := Has.marked F.I.nodes F.A.ur (hP ▸ g) hc mc hn mc' fun i hi hne => (gg i hi).2 hne
      have := gone ⟨_, hput.1, hput.2.1⟩
      omega
    | unlink p c hp hc mp np mc hn np' gg =>
      have hm := hung_out F.I.nodes F.A.ur hp hc mp np mc hn np' gg
      omega
    | cut p c hp hc mp np mc hn np' mc' gg =>
      have hm := hu.1
      have hput := Has.marked F.I.nodes F.A.ur (hP ▸ g) hc mc hn mc' fun i hi hne => (gg i hi).1 hne
      have := gone ⟨_, hput.1, hput.2.1⟩
      omega
  · rw [if_neg a3, if_neg a3]
    have alg : B.algo = 1 ∨ B.algo = 2 := by have := F.I.algo; omega
    -- no deed ends: what others saw holds
    have keep : (act B w kd k).2 = false ∨ B.algo = 1 → sumTo B.nh (fun j => work P (P.hands j) + ext B.algo (P.hands j)) + (work B (B.hands w) + ext B.algo (B.hands w)) ≤ sumTo B.nh (fun j => work B (B.hands j) + ext B.algo (B.hands j)) + (work P (P.hands w) + ext B.algo (P.hands w)) := by
      intro hor
      have := s0 (by
        intro i hi hne t ht hk3 hf p c hp hc
        obtain ⟨kd', k', _, hat⟩ := (F.I.hands i hi).at' t ht
        have hat2 := hat.algo
        have hff := hf p c hp hc
        rcases alg with ha | ha
        · cases t with
          | l0 | l1 | l2 => trivial
          | z0 | z1 | z2 | z3 | z4 | z5 => have : B.algo = 2 := hat2; omega
          | m0 | m1 | m2 | m3 => have : B.algo ≠ 1 ∧ B.algo ≠ 2 := hat2; omega
        · have hb : (act B w kd k).2 = false := by rcases hor with h | h; exact h; omega
          have lz := lazy_others F ha hb
          rw [← hP] at lz
          have pd : s ≠ .z5 → ∀ m, Pend B m → Pend P m := by
            rintro hne5 m ⟨j, hj, j1, j2⟩
            have : j ≠ w := by rintro rfl; rw [F.st] at j1; simp only [Option.some.injEq] at j1; exact hne5 j1
            exact ⟨j, by omega, by rw [hoth j this]; exact j1, by rw [hoth j this]; exact j2⟩
          have fin : (P.nodes p).next = (B.nodes p).next ∧ (∀ m, (B.nodes m).mark = false ∨ Pend B m → (P.nodes m).mark = false ∨ Pend P m) := by
            rcases lz with ⟨h1, h2⟩ | ⟨c0, h1, h2, h3⟩
            · exact ⟨(h1 p).1, fun m hm => by rw [(h1 m).2]; exact hm.imp id (pd h2 m)⟩
            · refine ⟨(h1 p).1, fun m hm => ?_⟩
              by_cases e : m = c0
              · subst e; exact .inr h2
              · rw [(h1 m).2, if_neg e]; exact hm.imp id (pd h3 m)
          cases t with
          | l0 | l1 | l2 => trivial
          | m0 | m1 | m2 | m3 => have : B.algo ≠ 1 ∧ B.algo ≠ 2 := hat2; omega
          | z0 | z5 => trivial
          | z1 | z2 | z3 | z4 =>
            simp only at hff ⊢
            rw [fin.1]
            exact ⟨hff.1, fin.2 p hff.2.1, fin.2 c hff.2.2⟩)
      simp only [hal] at this; omega
    simp only [hal] at s13
    have exl : ext B.algo (P.hands w) ≤ ext B.algo (B.hands w) := by
      unfold ext
      rcases alg with ha | ha
      · rw [if_neg (by omega), if_neg (by omega), if_neg (by omega), if_neg (by omega)]; exact Nat.le_refl _
      · rw [if_pos ha, if_pos ha]
        cases hb : (act B w kd k).2 with
        | true => rw [(le hb).1]; exact Nat.mul_le_mul_left 39 (by omega)
        | false => rw [(lo hb).1]; exact Nat.le_refl _
    rcases O with h | ⟨hbl, h1, h2, h3, h5⟩
    · left
      by_cases hb : (act B w kd k).2 = false ∨ B.algo = 1
      · have := keep hb
        omega
      · have hb1 : (act B w kd k).2 = true := by cases hh : (act B w kd k).2 with
          | true => rfl
          | false => exact absurd (.inl hh) hb
        have ha : B.algo = 2 := by rcases alg with h | h; exact absurd (.inr h) hb; exact h
        have e1 : ext B.algo (P.hands w) + 39 ≤ ext B.algo (B.hands w) := by
          unfold ext; rw [if_pos ha, if_pos ha, (le hb1).1]; omega
        omega
    · right
      have := keep (.inl h5)
      exact ⟨hbl, by omega, h2, h3, a3⟩
end
end Go.Ha

namespace Go.Ha
open Classical

theorem total_of {S T : Sys} (h1 : T.nodes = S.nodes) (h2 : T.nn = S.nn) (h3 : T.hands = S.hands) (h4 : T.nh = S.nh) (h5 : T.algo = S.algo) : total T = total S := by
  have hr : ∀ i, Reach T 0 i ↔ Reach S 0 i := fun i => ⟨Reach.of h1.symm h2.symm, Reach.of h1 h2⟩
  have hu : hung T = hung S := by
    unfold hung; rw [h2]
    congr 1; funext i; rw [h1]; simp only [hr i]
  have hp : ∀ i, Pend T i ↔ Pend S i := fun i => by unfold Pend; rw [h3, h4]
  have hf : ∀ x s kd, Fine T x s kd ↔ Fine S x s kd := fun x s kd => by
    unfold Fine
    cases s <;> simp only [h1, hp]
  have hb : ∀ x s kd, bad T x s kd = bad S x s kd := fun x s kd => by unfold bad; simp only [hf]
  have hc : ∀ x s kd, cost T x s kd = cost S x s kd := fun x s kd => by
    have hk : kc T x = kc S x := by unfold kc; rw [h1]
    cases s <;> simp only [cost, hb, hk]
  have hw : ∀ x, work T x = work S x := fun x => by unfold work; simp only [h5, hc]
  unfold total
  simp only [h3, h4, h5, hu, hw]

theorem kdOf_begin (S : Sys) (j : Nat) : kdOf ((beginS S j).hands j) = kdOf (S.hands j) := by unfold kdOf; rw [beginS_prog, beginS_pos]

theorem total_begin {S : Sys} (I : Inv S) {j : Nat} (hj : j < S.nh) (hd : hasDeed S j = true) : total (beginS S j) ≤ total S := by
  by_cases hst : (S.hands j).st = none
  · have e : beginS S j = (S.setH j { S.hands j with st := some (St.start S.algo), is := false }).tell j (S.told j ++ [beginD S j]) := by unfold beginS; rw [if_pos hst]
    obtain ⟨T, hT⟩ : ∃ T, T = S.setH j { S.hands j with st := some (St.start S.algo), is := false } := ⟨_, rfl⟩
    have e1 : total (beginS S j) = total T := by rw [e, ← hT]; exact total_of rfl rfl rfl rfl rfl
    rw [e1]
    have hl : 1 ≤ left' (S.hands j) := by
      unfold hasDeed at hd
      obtain ⟨d, h⟩ := Option.isSome_iff_exists.1 hd
      have := (List.getElem?_eq_some_iff.1 h).1
      unfold left'; omega
    have oth : ∀ i, i ≠ j → T.hands i = S.hands i := fun i hi => by rw [hT]; exact setF_ne _ _ hi
    have own : T.hands j = { S.hands j with st := some (St.start S.algo), is := false } := by rw [hT]; exact hands_setH _ _ _
    have pd : ∀ i, Pend S i → Pend T i := by
      rintro i ⟨m, hm, m1, m2⟩
      have : m ≠ j := by rintro rfl; rw [hst] at m1; simp at m1
      exact ⟨m, by rw [hT]; exact hm, by rw [oth m this]; exact m1, by rw [oth m this]; exact m2⟩
    have hn : T.nodes = S.nodes := by rw [hT]; rfl
    have ha : T.algo = S.algo := by rw [hT]; rfl
    have hnh : T.nh = S.nh := by rw [hT]; rfl
    have hu : hung T = hung S := by
      unfold hung
      have : T.nn = S.nn := by rw [hT]; rfl
      rw [this]; congr 1; funext i; rw [hn]
      have hr : Reach T 0 i ↔ Reach S 0 i := ⟨Reach.of hn.symm this.symm, Reach.of hn this⟩
      simp only [hr]
    have wk : ∀ i, i < S.nh → work T (T.hands i) + ext T.algo (T.hands i) ≤ work S (S.hands i) + ext S.algo (S.hands i) := by
      intro i hi
      by_cases e2 : i = j
      · subst e2
        have hsn : St.start S.algo ≠ .m3 := by unfold St.start; split <;> (try split) <;> simp
        have hext : ext T.algo (T.hands i) = ext S.algo (S.hands i) := by
          rw [own, ha]; unfold ext left'; simp only [hst]
          rw [if_neg (c := some (St.start S.algo) = some St.m3) (by simpa using hsn)]
          simp
        have hw : work T (T.hands i) ≤ work S (S.hands i) := by
          rw [own]; unfold work; simp only [hst]
          rw [ha]
          have hc : cost T { S.hands i with st := some (St.start S.algo), is := false } (St.start S.algo) (kdOf { S.hands i with st := some (St.start S.algo), is := false }) = base S.algo := by
            unfold St.start base
            by_cases h1 : S.algo = 1
            · simp [h1, cost]
            · by_cases h2 : S.algo = 2
              · simp [h2, cost]
              · simp [h1, h2, cost]
          rw [hc]
          have : left' { S.hands i with st := some (St.start S.algo), is := false } = left' (S.hands i) := rfl
          rw [this]
          obtain ⟨m, hm⟩ : ∃ m, left' (S.hands i) = m + 1 := ⟨left' (S.hands i) - 1, by omega⟩
          rw [hm, Nat.add_sub_cancel, Nat.mul_succ]; omega
        omega
      · rw [oth i e2, ha]
        have := work_mono (S := S) (S' := T) (x := S.hands i) ha (fun s _ _ => by unfold kc; rw [hn]) (fun s hs hk hf p c hp hc => by
          have := hf p c hp hc
          cases s with
          | z1 | z2 | z3 | z4 => simp only [hn] at this ⊢; exact ⟨this.1, this.2.1.imp id (pd _), this.2.2.imp id (pd _)⟩
          | m1 | m2 => simp only [hn] at this ⊢; exact this
          | _ => trivial)
        omega
    unfold total
    rw [hnh, hu]
    have := sumTo_le wk
    rw [ha] at this ⊢
    omega
  · have : beginS S j = S := by unfold beginS; rw [if_neg hst]
    rw [this]; exact Nat.le_refl _

/-- Hand j waits, should it step now. -/
def Waits (S : Sys) (j : Nat) : Prop := ∃ kd k, (S.hands j).prog[(S.hands j).pos]? = some (kd, k) ∧ Blocked (beginS S j) ((beginS S j).hands j) kd k

/-- A good state. -/
structure Sound (S : Sys) : Prop where
  inv : Inv S
  ainv : AInv S
  algo : S.algo ≠ 4
  nh : S.nh ≤ 4

theorem Sound.step {S : Sys} (G : Sound S) {j : Nat} (hj : j < S.nh) : Sound (S.step j) := by
  cases hd : (S.hands j).prog[(S.hands j).pos]? with
  | none =>
    have : S.step j = S := by unfold Sys.step; rw [hd]
    rw [this]; exact G
  | some d =>
    obtain ⟨kd, k⟩ := d
    obtain ⟨s, F, D⟩ := step_did G.inv G.ainv G.algo hj hd
    refine ⟨G.inv.step hj, by rw [step_eq hd]; exact D.inv.tick, ?_, by rw [step_nh]; exact G.nh⟩
    rw [step_eq hd]
    show (post _ _ _ _).algo ≠ 4
    rw [post_algo, beginS_algo]; exact G.algo

theorem step_algo {S : Sys} {j : Nat} : (S.step j).algo = S.algo := by
  cases hd : (S.hands j).prog[(S.hands j).pos]? with
  | none => have : S.step j = S := by unfold Sys.step; rw [hd]
            rw [this]
  | some d =>
    obtain ⟨kd, k⟩ := d
    rw [step_eq hd]; show (post _ _ _ _).algo = _; rw [post_algo, beginS_algo]

theorem step_others {S : Sys} {i j : Nat} (h : i ≠ j) : (S.step j).hands i = S.hands i ∧ (S.step j).told i = S.told i := by
  cases hd : (S.hands j).prog[(S.hands j).pos]? with
  | none =>
    have : S.step j = S := by unfold Sys.step; rw [hd]
    rw [this]; exact ⟨rfl, rfl⟩
  | some d =>
    obtain ⟨kd, k⟩ := d
    rw [step_eq hd]
    have a := post_others (B := beginS S j) (kd := kd) (k := k) h
    have b := beginS_others S j i h
    exact ⟨a.1.trans b.1, a.2.trans b.2⟩

/-- A step: the measure falls, or the hand waits. -/
theorem Sound.falls {S : Sys} (G : Sound S) {j : Nat} (hj : j < S.nh) (hd : hasDeed S j = true) :
    total (S.step j) + 1 ≤ total S ∨ (Waits S j ∧ total (S.step j) ≤ total S ∧ (S.step j).nodes = S.nodes ∧ S.algo ≠ 3) := by
  obtain ⟨⟨kd, k⟩, hd'⟩ := Option.isSome_iff_exists.1 hd
  obtain ⟨s, F⟩ := From.begin G.inv G.ainv hj hd'
  have t0 := total_begin G.inv hj hd
  have e : total (S.step j) = total (post (beginS S j) j kd k) := by rw [step_eq hd']; exact total_of rfl rfl rfl rfl rfl
  rcases total_post F (by rw [beginS_algo]; exact G.algo) (by rw [beginS_nh]; exact G.nh) with h | ⟨h1, h2, h3, h4, h5⟩
  · left; omega
  · right
    refine ⟨⟨kd, k, hd', h1⟩, by omega, ?_, by rw [beginS_algo] at h5; exact h5⟩
    rw [step_eq hd']; show (post _ _ _ _).nodes = _; rw [h3, beginS_nodes]

/-- Waiting is told by the beads and the hand. -/
theorem Waits.of {S T : Sys} {j : Nat} (h1 : T.nodes = S.nodes) (h2 : T.hands j = S.hands j) (h3 : T.algo = S.algo) (h : Waits T j) : Waits S j := by
  obtain ⟨kd, k, hd, n, hn, hl⟩ := h
  rw [h2] at hd
  have e : (beginS T j).hands j = (beginS S j).hands j := by
    unfold beginS; rw [h2, h3]
    split
    · show ((T.setH j _).hands j) = ((S.setH j _).hands j); rw [hands_setH, hands_setH]
    · exact h2
  refine ⟨kd, k, hd, n, ?_, ?_⟩
  · rw [← e]
    unfold wants at hn ⊢
    rw [beginS_algo, beginS_nodes] at hn ⊢
    rw [h1, h3] at hn
    exact hn
  · rw [beginS_nodes] at hl ⊢; rw [← h1]; exact hl

/-- There is a locked bead farthest on. -/
theorem farthest {S : Sys} (N : NodesOk S) : ∀ (d n : Nat), n < S.nn → (S.nodes n).lock = true → (10 - (S.nodes n).key).toNat ≤ d → ∃ m, m < S.nn ∧ (S.nodes m).lock = true ∧ ∀ i, i < S.nn → (S.nodes i).lock = true → (S.nodes i).key ≤ (S.nodes m).key := by
  intro d
  induction d with
  | zero =>
    intro n hn hl hd
    refine ⟨n, hn, hl, fun i hi _ => ?_⟩
    have := N.le i hi; omega
  | succ d ih =>
    intro n hn hl hd
    by_cases h : ∃ i, i < S.nn ∧ (S.nodes i).lock = true ∧ (S.nodes n).key < (S.nodes i).key
    · obtain ⟨i, h1, h2, h3⟩ := h
      exact ih i h1 h2 (by have := N.le i h1; omega)
    · exact ⟨n, hn, hl, fun i hi hli => by
        by_cases hlt : (S.nodes n).key < (S.nodes i).key
        · exact absurd ⟨i, hi, hli, hlt⟩ h
        · omega⟩

/-- Not all wait. -/
theorem Sound.goes {S : Sys} (G : Sound S) (h3 : S.algo ≠ 3) {j0 : Nat} (hj0 : j0 < S.nh) (hd0 : hasDeed S j0 = true) : ∃ j, j < S.nh ∧ hasDeed S j = true ∧ ¬ Waits S j := by
  by_cases hall : ∃ j, j < S.nh ∧ hasDeed S j = true ∧ ¬ Waits S j
  · exact hall
  · exfalso
    have all : ∀ j, j < S.nh → hasDeed S j = true → Waits S j := fun j hj hd => by
      by_cases h : Waits S j
      · exact h
      · exact absurd ⟨j, hj, hd, h⟩ hall
    have N := G.inv.nodes
    -- some bead is locked
    have lk : ∃ n, n < S.nn ∧ (S.nodes n).lock = true := by
      obtain ⟨kd, k, hd, n, hn, hl⟩ := all j0 hj0 hd0
      rw [beginS_nodes] at hl
      refine ⟨n, ?_, hl⟩
      obtain ⟨s, F⟩ := From.begin G.inv G.ainv hj0 hd
      have hnn := beginS_nn S j0
      have fst := F.st
      unfold wants at hn
      rw [fst] at hn
      by_cases hb : s.begins = true
      · cases s <;> simp [St.begins] at hb <;> simp at hn
        subst hn; exact N.first
      · obtain ⟨p, c, e1, e2, e3, e4, _⟩ := F.at'.on (by simpa using hb)
        rw [hnn] at e3 e4
        rw [e1, e2] at hn
        cases s with
        | l0 | z0 | m0 => simp [St.begins] at hb
        | l1 => simp only [Option.some.injEq] at hn; subst hn; exact e4
        | z3 => simp only [Option.some.injEq] at hn; subst hn; exact e4
        | z2 => simp only [Option.some.injEq] at hn; subst hn; exact e3
        | z1 =>
          simp only at hn
          split at hn
          · simp at hn
          · simp only [Option.some.injEq] at hn; subst hn; exact e3
        | l2 | z4 | z5 | m1 | m2 | m3 => simp at hn
    obtain ⟨n0, hn0, hl0⟩ := lk
    obtain ⟨m, hm, hml, hmax⟩ := farthest N _ n0 hn0 hl0 (Nat.le_refl _)
    obtain ⟨j, hj, hh⟩ := G.ainv.lk.all m hm hml
    have hst : (S.hands j).st ≠ none := by
      intro h; rw [st_none_holds h] at hh; simp at hh
    obtain ⟨s, hs⟩ := Option.ne_none_iff_exists'.1 hst
    obtain ⟨kd, k, hd, A⟩ := (G.inv.hands j hj).at' s hs
    have hdd : hasDeed S j = true := by unfold hasDeed; rw [hd]; rfl
    obtain ⟨kd', k', hd', n, hn, hl⟩ := all j hj hdd
    have hb : beginS S j = S := by unfold beginS; rw [if_neg hst]
    rw [hb] at hn hl
    unfold wants at hn
    rw [hs] at hn
    unfold holds at hh
    rw [hs] at hh
    cases s with
    | l1 | z3 =>
      obtain ⟨p, c, e1, e2, e3, e4, e5, e6, _⟩ := A.on rfl
      simp only [e2, Option.some.injEq] at hn; subst hn
      simp only [e1, Option.toList_some, List.mem_singleton] at hh; subst hh
      have := hmax c e4 hl; omega
    | l2 | z4 | z5 => simp at hn
    | l0 | z0 | z1 | z2 | m0 | m1 | m2 | m3 => simp at hh

/-- The rest of a round. -/
theorem sweep_total : ∀ (n : Nat) (S : Sys) (b : Bool) (j : Nat), Sound S → j + n = S.nh → Sound (sweepFrom n S b j).1 ∧ (sweepFrom n S b j).1.algo = S.algo ∧ total (sweepFrom n S b j).1 ≤ total S ∧
    (S.algo = 3 → total (sweepFrom n S b j).1 + (sweepFrom n S b j).1.now ≤ total S + S.now) ∧ (sweepFrom n S b j).1.now ≤ S.now + n ∧
    (S.now + n ≤ 4000 → (∃ i, j ≤ i ∧ i < S.nh ∧ hasDeed S i = true) → (sweepFrom n S b j).2 = true) ∧ (b = true → (sweepFrom n S b j).2 = true) ∧
    (S.now + n ≤ 4000 → (∃ i, j ≤ i ∧ i < S.nh ∧ hasDeed S i = true ∧ (¬ Waits S i ∨ S.algo = 3)) → total (sweepFrom n S b j).1 + 1 ≤ total S) := by
  intro n
  induction n with
  | zero =>
    intro S b j G hj
    refine ⟨G, rfl, Nat.le_refl _, fun _ => Nat.le_refl _, Nat.le_refl _, ?_, id, ?_⟩
    · rintro _ ⟨i, h1, h2, _⟩; omega
    · rintro _ ⟨i, h1, h2, _⟩; omega
  | succ n ih =>
    intro S b j G hj
    rw [sweep_succ]
    by_cases h : S.now < 4000 ∧ hasDeed S j = true
    · rw [if_pos h]
      have hjn : j < S.nh := by omega
      have G1 := G.step hjn
      have hnow : (S.step j).now = S.now + 1 := by rw [step_now, if_pos h.2]
      obtain ⟨a1, a2, a3, a4, a5, a6, a7, a8⟩ := ih (S.step j) true (j + 1) G1 (by rw [step_nh]; omega)
      rw [step_algo] at a2 a4
      rw [hnow] at a4 a5 a6 a8
      have fl := G.falls hjn h.2
      refine ⟨a1, a2, ?_, ?_, by omega, fun _ _ => a7 rfl, fun _ => a7 rfl, ?_⟩
      · rcases fl with f | ⟨_, f, _⟩ <;> omega
      · intro h3
        have := a4 h3
        rcases fl with f | ⟨_, _, _, f⟩
        · omega
        · exact absurd h3 f
      · rintro hn ⟨i, h1, h2, h3, h4⟩
        rcases fl with f | ⟨f1, f2, f3, f4⟩
        · omega
        · by_cases e : i = j
          · subst e
            rcases h4 with h4 | h4
            · exact absurd f1 h4
            · exact absurd h4 f4
          · have o := step_others (S := S) e
            have hh : hasDeed (S.step j) i = true := by unfold hasDeed at h3 ⊢; rw [o.1]; exact h3
            have hw : ¬ Waits (S.step j) i := fun hw => (h4.resolve_right f4) (hw.of f3 o.1 step_algo)
            have := a8 (by omega) ⟨i, by omega, by rw [step_nh]; exact h2, hh, .inl hw⟩
            omega
    · rw [if_neg h]
      obtain ⟨a1, a2, a3, a4, a5, a6, a7, a8⟩ := ih S b (j + 1) G (by omega)
      have later : ∀ i, j ≤ i → S.now + (n + 1) ≤ 4000 → hasDeed S i = true → j + 1 ≤ i := by
        intro i h1 h2 h3
        by_cases e : i = j
        · subst e; exact absurd ⟨by omega, h3⟩ h
        · omega
      refine ⟨a1, a2, a3, a4, by omega, ?_, a7, ?_⟩
      · rintro hn ⟨i, h1, h2, h3⟩; exact a6 (by omega) ⟨i, later i h1 hn h3, h2, h3⟩
      · rintro hn ⟨i, h1, h2, h3, h4⟩; exact a8 (by omega) ⟨i, later i h1 hn h3, h2, h3, h4⟩

theorem sweep_none : ∀ (n : Nat) (S : Sys) (b : Bool) (j : Nat), (∀ i, j ≤ i → i < j + n → hasDeed S i = false) → sweepFrom n S b j = (S, b) := by
  intro n
  induction n with
  | zero => intro S b j _; rfl
  | succ n ih =>
    intro S b j h
    rw [sweep_succ, if_neg (by rw [h j (Nat.le_refl _) (by omega)]; simp)]
    exact ih S b (j + 1) fun i h1 h2 => h i (by omega) (by omega)

/-- The rounds end, and all deeds with them. -/
theorem rounds_done : ∀ (n : Nat) (S : Sys), Sound S → total S < n → (S.algo = 3 → total S + S.now ≤ 3990) → (S.algo ≠ 3 → 4 * total S + S.now ≤ 3990) →
    Sound (rounds n S) ∧ (∀ j, j < (rounds n S).nh → hasDeed (rounds n S) j = false) := by
  intro n
  induction n with
  | zero => intro S _ h; omega
  | succ n ih =>
    intro S G ht h3 hn3
    obtain ⟨a1, a2, a3, a4, a5, a6, a7, a8⟩ := sweep_total S.nh S false 0 G (by omega)
    have hnow : S.now + S.nh ≤ 4000 := by
      have := G.nh
      by_cases e : S.algo = 3
      · have := h3 e; omega
      · have := hn3 e; omega
    by_cases hd : ∃ j, j < S.nh ∧ hasDeed S j = true
    · obtain ⟨j, hj, hdj⟩ := hd
      have hb := a6 hnow ⟨j, Nat.zero_le _, hj, hdj⟩
      have hlt : total (sweepFrom S.nh S false 0).1 + 1 ≤ total S := by
        refine a8 hnow ?_
        by_cases e : S.algo = 3
        · exact ⟨j, Nat.zero_le _, hj, hdj, .inr e⟩
        · obtain ⟨i, h1, h2, h3⟩ := G.goes e hj hdj
          exact ⟨i, Nat.zero_le _, h1, h2, .inl h3⟩
      have e : rounds (n + 1) S = rounds n (sweepFrom S.nh S false 0).1 := by
        show (if _ then _ else _) = _; rw [if_pos hb]
      rw [e]
      refine ih _ a1 (by omega) ?_ ?_
      · intro e; rw [a2] at e; have := h3 e; have := a4 e; omega
      · intro e; rw [a2] at e; have := hn3 e; have := G.nh; omega
    · have no : ∀ i, i < S.nh → hasDeed S i = false := fun i hi => by
        cases h : hasDeed S i with
        | false => rfl
        | true => exact absurd ⟨i, hi, h⟩ hd
      have e0 : sweepFrom S.nh S false 0 = (S, false) := sweep_none _ _ _ _ fun i _ h2 => no i (by omega)
      have e : rounds (n + 1) S = S := by
        show (if (sweepFrom S.nh S false 0).2 = true then _ else (sweepFrom S.nh S false 0).1) = _
        rw [e0]; simp
      rw [e]
      exact ⟨G, no⟩
end Go.Ha

namespace Go.Ha
open Classical

section
variable {algo : Int} {start order : List Int} {progs : List (List (Int × Int))}

theorem node0_any (start : List Int) (i : Nat) : (node0 start i).mark = false ∧ (node0 start i).lock = false := by
  unfold node0; split
  · exact ⟨rfl, rfl⟩
  · split <;> exact ⟨rfl, rfl⟩

theorem reach0 (algo : Int) (start : List Int) (progs : List (List (Int × Int))) : ∀ i, i < start.length + 2 → Reach (sys0 algo start progs) 0 i := by
  intro i
  induction i with
  | zero => intro _; exact .refl _
  | succ i ih =>
    intro hi
    refine (ih (by omega)).trans (.step (show i < start.length + 2 by omega) ?_ (.refl _))
    show (node0 start i).next = some (i + 1)
    unfold node0
    split
    · rename_i h; subst h; rfl
    · rw [if_pos (by omega)]

theorem sound0 (hr : rightE algo start progs order = 0) (h4 : algo ≠ 4) : Sound (sys0 algo start progs) := by
  obtain ⟨ra, rl, ro, rp, rs⟩ := rightE_ok hr
  refine ⟨inv0 hr, ?_, h4, rl⟩
  have mk : ∀ i, ((sys0 algo start progs).nodes i).mark = false := fun i => (node0_any start i).1
  have lk : ∀ i, ((sys0 algo start progs).nodes i).lock = false := fun i => (node0_any start i).2
  have st : ∀ j, ((sys0 algo start progs).hands j).st = none := fun j => rfl
  refine ⟨fun i hi _ => reach0 algo start progs i hi, fun i _ h => by rw [mk] at h; simp at h, ⟨?_, ?_, ?_⟩, ?_, ?_, ?_, ?_, ?_⟩
  · intro j _ i hi; rw [st_none_holds (st j)] at hi; simp at hi
  · intro j j' _ _ i hi; rw [st_none_holds (st j)] at hi; simp at hi
  · intro i _ h; rw [lk] at h; simp at h
  · intro j _ s hs; rw [st] at hs; simp at hs
  · intro j _ s hs; rw [st] at hs; simp at hs
  · intro _ i _ _ k _; exact mk k
  · intro j _ hs; rw [st] at hs; simp at hs
  · intro _ i _ _ k _ h; rw [mk] at h; simp at h

theorem total0 (hr : rightE algo start progs order = 0) : total (sys0 algo start progs) ≤ (if algo = 3 then 1472 else 848) := by
  obtain ⟨ra, rl, ro, rp, rs⟩ := rightE_ok hr
  have hu : hung (sys0 algo start progs) = 0 := by
    unfold hung
    have : ∀ n, sumTo n (fun i => if ((sys0 algo start progs).nodes i).mark = true ∧ Reach (sys0 algo start progs) 0 i then 1 else 0) = 0 := by
      intro n
      induction n with
      | zero => rfl
      | succ n ih =>
        simp only [sumTo, ih]
        rw [if_neg]
        rintro ⟨h, _⟩
        have := (node0_any start n).1
        have h' : (node0 start n).mark = true := h
        rw [this] at h'; simp at h'
    exact this _
  unfold total
  rw [hu]
  have hl : ∀ j, j < progs.length → left' ((sys0 algo start progs).hands j) ≤ 4 := by
    intro j hj
    have e : progs.getD j [] = progs[j] := by simp [hj]
    have := (rp _ (List.getElem_mem hj)).1
    show (progs.getD j []).length - 0 ≤ 4
    rw [e]; omega
  have hw : ∀ j, j < progs.length → work (sys0 algo start progs) ((sys0 algo start progs).hands j) + ext algo ((sys0 algo start progs).hands j) ≤ (if algo = 3 then 368 else 212) := by
    intro j hj
    have := hl j hj
    have e1 : work (sys0 algo start progs) ((sys0 algo start progs).hands j) = base algo * left' ((sys0 algo start progs).hands j) := rfl
    have e2 : ext algo ((sys0 algo start progs).hands j) = if algo = 2 then 39 * left' ((sys0 algo start progs).hands j) else if algo = 3 then 78 * left' ((sys0 algo start progs).hands j) else 0 := rfl
    rw [e1, e2]
    unfold base
    by_cases h1 : algo = 1
    · rw [if_pos h1, if_neg (by omega), if_neg (by omega), if_neg (by omega)]; omega
    · rw [if_neg h1]
      by_cases h2 : algo = 2
      · rw [if_pos h2, if_neg (by omega)]; omega
      · rw [if_neg h2]
        by_cases h3 : algo = 3
        · rw [if_pos h3, if_pos h3]; omega
        · rw [if_neg h3, if_neg h3]; omega
  have := sumTo_le (n := progs.length) hw
  rw [sumTo_const] at this
  have e : (sys0 algo start progs).nh = progs.length := rfl
  have e2 : (sys0 algo start progs).algo = algo := rfl
  rw [e, e2]
  by_cases h3 : algo = 3
  · rw [if_pos h3] at this ⊢
    rw [if_pos h3]
    have : progs.length * 368 ≤ 4 * 368 := Nat.mul_le_mul_right 368 rl
    omega
  · rw [if_neg h3] at this ⊢
    rw [if_neg h3]
    have : progs.length * 212 ≤ 4 * 212 := Nat.mul_le_mul_right 212 rl
    omega

theorem order_total : ∀ (order : List Int) (S : Sys), Sound S → Sound (runOrder S order) ∧ (runOrder S order).algo = S.algo ∧ (runOrder S order).nh = S.nh ∧ total (runOrder S order) ≤ total S ∧ (S.algo = 3 → total (runOrder S order) + (runOrder S order).now ≤ total S + S.now) ∧
    (runOrder S order).now ≤ S.now + order.length := by
  intro order
  induction order with
  | nil => intro S G; exact ⟨G, rfl, rfl, Nat.le_refl _, fun _ => Nat.le_refl _, Nat.le_refl _⟩
  | cons who order ih =>
    intro S G
    have e : runOrder S (who :: order) = runOrder (if inside who 0 ((S.nh : Int) - 1) then S.step who.toNat else S) order := rfl
    rw [e]
    cases hin : inside who 0 ((S.nh : Int) - 1) with
    | false =>
      obtain ⟨a1, a2, a3, a4, a5, a6⟩ := ih S G
      simp only [Bool.false_eq_true, if_false]
      exact ⟨a1, a2, a3, a4, a5, by simp only [List.length_cons]; omega⟩
    | true =>
      simp only [if_true]
      have hj : who.toNat < S.nh := by
        have : 0 ≤ who ∧ who ≤ (S.nh : Int) - 1 := by simpa [inside] using hin
        omega
      obtain ⟨a1, a2, a3, a4, a5, a6⟩ := ih (S.step who.toNat) (G.step hj)
      rw [step_algo] at a2 a5
      rw [step_nh] at a3
      cases hd : hasDeed S who.toNat with
      | false =>
        rw [step_no hd] at a1 a2 a3 a4 a5 a6 ⊢
        exact ⟨a1, a2, a3, a4, a5, by simp only [List.length_cons]; omega⟩
      | true =>
        have hnow : (S.step who.toNat).now = S.now + 1 := by rw [step_now, if_pos hd]
        rw [hnow] at a5 a6
        refine ⟨a1, a2, a3, ?_, ?_, by simp only [List.length_cons]; omega⟩
        · rcases G.falls hj hd with f | ⟨_, f, _⟩ <;> omega
        · intro h3
          have := a5 h3
          rcases G.falls hj hd with f | ⟨_, _, _, f⟩
          · omega
          · exact absurd h3 f

/-- A row of steps. -/
inductive Steps (S0 : Sys) : List Nat → Sys → Prop
  | nil : Steps S0 [] S0
  | snoc {l : List Nat} {S : Sys} {j : Nat} : Steps S0 l S → j < S.nh → hasDeed S j = true → Steps S0 (l ++ [j]) (S.step j)

theorem steps_step {S0 S : Sys} {l : List Nat} (h : Steps S0 l S) {j : Nat} (hj : j < S.nh) : ∃ l', Steps S0 l' (S.step j) := by
  cases hd : hasDeed S j with
  | false => rw [step_no hd]; exact ⟨l, h⟩
  | true => exact ⟨_, h.snoc hj hd⟩

theorem steps_order {S0 : Sys} : ∀ (order : List Int) (S : Sys) (l : List Nat), Steps S0 l S → ∃ l', Steps S0 l' (runOrder S order) := by
  intro order
  induction order with
  | nil => intro S l h; exact ⟨l, h⟩
  | cons who order ih =>
    intro S l h
    have e : runOrder S (who :: order) = runOrder (if inside who 0 ((S.nh : Int) - 1) then S.step who.toNat else S) order := rfl
    rw [e]
    cases hin : inside who 0 ((S.nh : Int) - 1) with
    | false => exact ih S l h
    | true =>
      have hj : who.toNat < S.nh := by
        have : 0 ≤ who ∧ who ≤ (S.nh : Int) - 1 := by simpa [inside] using hin
        omega
      obtain ⟨l', h'⟩ := steps_step h hj
      exact ih _ l' h'

theorem steps_sweep {S0 : Sys} : ∀ (n : Nat) (S : Sys) (b : Bool) (j : Nat) (l : List Nat), j + n = S.nh → Steps S0 l S → ∃ l', Steps S0 l' (sweepFrom n S b j).1 := by
  intro n
  induction n with
  | zero => intro S b j l _ h; exact ⟨l, h⟩
  | succ n ih =>
    intro S b j l hj h
    rw [sweep_succ]
    split
    · rename_i hd
      exact ih _ true (j + 1) _ (by rw [step_nh]; omega) (h.snoc (by omega) hd.2)
    · exact ih S b (j + 1) l (by omega) h

theorem steps_rounds {S0 : Sys} : ∀ (n : Nat) (S : Sys) (l : List Nat), Steps S0 l S → ∃ l', Steps S0 l' (rounds n S) := by
  intro n
  induction n with
  | zero => intro S l h; exact ⟨l, h⟩
  | succ n ih =>
    intro S l h
    obtain ⟨l', h'⟩ := steps_sweep S.nh S false 0 l (by omega) h
    show ∃ l', Steps S0 l' (if (sweepFrom S.nh S false 0).2 = true then rounds n (sweepFrom S.nh S false 0).1 else (sweepFrom S.nh S false 0).1)
    split
    · exact ih _ l' h'
    · exact ⟨l', h'⟩

theorem steps_nh {S0 S : Sys} {l : List Nat} (h : Steps S0 l S) : S.nh = S0.nh := by
  induction h with
  | nil => rfl
  | snoc _ _ _ ih => rw [step_nh]; exact ih

theorem steps_fold {S0 S : Sys} {l : List Nat} (h : Steps S0 l S) : l.foldl Sys.step S0 = S ∧ ∀ t, t < l.length → l.getD t 0 < S0.nh ∧ hasDeed ((l.take t).foldl Sys.step S0) (l.getD t 0) = true ∧ (l.take (t + 1)).foldl Sys.step S0 = ((l.take t).foldl Sys.step S0).step (l.getD t 0) := by
  induction h with
  | nil => exact ⟨rfl, fun t ht => by simp at ht⟩
  | @snoc l S j h hj hd ih =>
    obtain ⟨i1, i2⟩ := ih
    refine ⟨by rw [List.foldl_append, i1]; rfl, fun t ht => ?_⟩
    rw [List.length_append, List.length_singleton] at ht
    by_cases e : t < l.length
    · obtain ⟨a, b, c⟩ := i2 t e
      have g : (l ++ [j]).getD t 0 = l.getD t 0 := by
        rw [List.getD_eq_getElem?_getD, List.getD_eq_getElem?_getD, List.getElem?_append_left e]
      have t1 : (l ++ [j]).take t = l.take t := List.take_append_of_le_length (by omega)
      have t2 : (l ++ [j]).take (t + 1) = l.take (t + 1) := List.take_append_of_le_length (by omega)
      rw [g, t1, t2]; exact ⟨a, b, c⟩
    · have et : t = l.length := by omega
      subst et
      have g : (l ++ [j]).getD l.length 0 = j := by simp
      have t1 : (l ++ [j]).take l.length = l := by simp
      have t2 : (l ++ [j]).take (l.length + 1) = l ++ [j] := List.take_of_length_le (by simp)
      rw [g, t1, t2, i1, List.foldl_append, i1]
      exact ⟨by rw [← steps_nh h]; exact hj, hd, rfl⟩

/-- The run, all of it: sound, over, and step by step. -/
theorem run_whole (hr : rightE algo start progs order = 0) (h4 : algo ≠ 4) :
    ∃ ex w T, RunOk ex w T ∧ ex 0 = sys0 algo start progs ∧ ex T = runS algo start progs order ∧ (∀ j, j < progs.length → hasDeed (runS algo start progs order) j = false) := by
  obtain ⟨ra, rl, ro, rp, rs⟩ := rightE_ok hr
  have G := sound0 hr h4
  have t0 := total0 hr
  obtain ⟨a1, a2, a3, a4, a5, a6⟩ := order_total order _ G
  have ea : (sys0 algo start progs).algo = algo := rfl
  have en : (sys0 algo start progs).now = 0 := rfl
  have eh : (sys0 algo start progs).nh = progs.length := rfl
  rw [ea] at a2 a5
  rw [en] at a5 a6
  rw [eh] at a3
  obtain ⟨b1, b2⟩ := rounds_done 5000 _ a1 (by split at t0 <;> omega) (by
    intro h; rw [a2] at h; have := a5 h; rw [if_pos h] at t0; omega) (by
    intro h; rw [a2] at h; rw [if_neg h] at t0; omega)
  obtain ⟨l1, s1⟩ := steps_order (S0 := sys0 algo start progs) order _ [] .nil
  obtain ⟨l2, s2⟩ := steps_rounds 5000 _ l1 s1
  have hnh := steps_nh s2
  obtain ⟨f1, f2⟩ := steps_fold s2
  refine ⟨fun t => (l2.take t).foldl Sys.step (sys0 algo start progs), fun t => l2.getD t 0, l2.length, ?_, by simp, by simp only [List.take_length]; exact f1, ?_⟩
  · refine ⟨?_, ?_, ?_, ?_, ?_, ?_⟩
    · simpa using G.inv
    · simpa using G.ainv
    · simp only [List.take_zero, List.foldl_nil]; exact h4
    · simp only [List.take_zero, List.foldl_nil]; exact en
    · intro j; simp only [List.take_zero, List.foldl_nil]; exact ⟨rfl, rfl, rfl⟩
    · intro t ht
      obtain ⟨a, b, c⟩ := f2 t ht
      simp only [List.take_zero, List.foldl_nil]
      exact ⟨a, b, c⟩
  · intro j hj
    exact b2 j (by rw [hnh]; exact hj)
end
end Go.Ha

namespace Go.Ha

/-- Does a set answer so? -/
def Right (σ : Int → Prop) (kd k : Int) (is : Bool) : Prop := (kd = 1 ∧ (is = true ↔ ¬ σ k)) ∨ (kd = 2 ∧ (is = true ↔ σ k)) ∨ (kd = 3 ∧ (is = true ↔ σ k))
/-- What a set is behind a deed. -/
def After (σ : Int → Prop) (kd k : Int) : Int → Prop := fun k' => if k' = k then (kd = 1 ∨ (kd = 3 ∧ σ k)) else σ k'

/-- There is an order of all that is to do, each within its time. -/
inductive Good' (kk : Dn → Int × Int) (ρ : Int → Prop) : (Int → Prop) → List Dn → Prop
  | nil {σ : Int → Prop} : (∀ k, σ k ↔ ρ k) → Good' kk ρ σ []
  | pick {σ σ' : Int → Prop} {todo : List Dn} (i : Nat) (x : Dn) : todo[i]? = some x → (∀ y ∈ todo, ¬ y.fin < x.beg) → Right σ (kk x).1 (kk x).2 x.is → (∀ k, σ' k ↔ After σ (kk x).1 (kk x).2 k) → Good' kk ρ σ' (todo.eraseIdx i) → Good' kk ρ σ todo

section
variable (ex : Nat → Sys) (w : Nat → Nat)

/-- When a deed was done. -/
inductive LinAt (kk : Dn → Int × Int) (d : Dn) : Nat → Prop
  | upd (u : Nat) (f : Nat) (hf : d.fin = f) (h1 : d.beg ≤ u) (h2 : u ≤ f) (hm : Mine ex w d.who d.deed u) (hi : d.is = true) (h3 : (kk d).1 ≠ 3) (he : EffAt ex (kk d).1 (kk d).2 u) : LinAt kk d (2 * u)
  | obs (s : Nat) (f : Nat) (hf : d.fin = f) (h1 : d.beg < s) (h2 : s ≤ f + 1) (ha : Ans ex (kk d).1 (kk d).2 d.is s) : LinAt kk d (2 * s - 1)

variable {ex w}
variable {kk : Dn → Int × Int}

theorem LinAt.rng {d : Dn} {p : Nat} (h : LinAt ex w kk d p) : 2 * d.beg ≤ p ∧ ∃ f : Nat, d.fin = f ∧ p ≤ 2 * f + 1 := by
  cases h with
  | upd u f hf h1 h2 => exact ⟨by omega, f, hf, by omega⟩
  | obs s f hf h1 h2 => exact ⟨by omega, f, hf, by omega⟩

theorem still_all {s : Nat} : ∀ (n : Nat), (∀ v, s ≤ v → v < s + n → Still ex v) → ∀ k, Has (ex (s + n)) k ↔ Has (ex s) k := by
  intro n
  induction n with
  | zero => intro _ k; exact Iff.rfl
  | succ n ih =>
    intro h k
    exact (h (s + n) (by omega) (by omega) k).trans (ih (fun v h1 h2 => h v h1 (by omega)) k)

/-- The least of all times. -/
theorem least {α : Type} (f : α → Nat) : ∀ (l : List α), l ≠ [] → ∃ (i : Nat) (x : α), l[i]? = some x ∧ ∀ y ∈ l, f x ≤ f y := by
  intro l
  induction l with
  | nil => intro h; exact absurd rfl h
  | cons a l ih =>
    intro _
    by_cases e : l = []
    · subst e; exact ⟨0, a, rfl, fun y hy => by simp at hy; subst hy; exact Nat.le_refl _⟩
    · obtain ⟨i, x, h1, h2⟩ := ih e
      by_cases h : f a ≤ f x
      · refine ⟨0, a, rfl, fun y hy => ?_⟩
        simp only [List.mem_cons] at hy
        rcases hy with rfl | hy
        · exact Nat.le_refl _
        · exact Nat.le_trans h (h2 y hy)
      · refine ⟨i + 1, x, by simpa using h1, fun y hy => ?_⟩
        simp only [List.mem_cons] at hy
        rcases hy with rfl | hy
        · omega
        · exact h2 y hy

theorem mem_erase {α : Type} : ∀ {l : List α} {i : Nat} {y : α}, y ∈ l.eraseIdx i → y ∈ l := fun h => List.mem_of_mem_eraseIdx h

theorem mem_or {α : Type} : ∀ {l : List α} {i : Nat} {x y : α}, l[i]? = some x → y ∈ l → y ∈ l.eraseIdx i ∨ y = x := by
  intro l
  induction l with
  | nil => intro i x y h; simp at h
  | cons a l ih =>
    intro i x y h hy
    cases i with
    | zero =>
      simp at h; subst h
      simp only [List.mem_cons] at hy
      rcases hy with h | h
      · exact .inr h
      · exact .inl (by simpa using h)
    | succ i =>
      simp only [List.mem_cons] at hy
      rcases hy with rfl | hy
      · exact .inl (by simp)
      · rcases ih (by simpa using h) hy with h' | h'
        · exact .inl (by simp [h'])
        · exact .inr h'

theorem nodup_erase {α β : Type} (f : α → β) : ∀ {l : List α} {i : Nat}, (l.map f).Nodup → ((l.eraseIdx i).map f).Nodup := by
  intro l
  induction l with
  | nil => intro i h; simpa using h
  | cons a l ih =>
    intro i h
    simp only [List.map_cons, List.nodup_cons] at h
    cases i with
    | zero => simpa using h.2
    | succ i =>
      simp only [List.eraseIdx_cons_succ, List.map_cons, List.nodup_cons]
      refine ⟨fun hm => h.1 ?_, ih h.2⟩
      obtain ⟨y, hy, e⟩ := List.mem_map.1 hm
      exact List.mem_map.2 ⟨y, mem_erase hy, e⟩

theorem nodup_ne {α β : Type} (f : α → β) : ∀ {l : List α} {i : Nat} {x y : α}, (l.map f).Nodup → l[i]? = some x → y ∈ l.eraseIdx i → f y ≠ f x := by
  intro l
  induction l with
  | nil => intro i x y _ h; simp at h
  | cons a l ih =>
    intro i x y h hx hy
    simp only [List.map_cons, List.nodup_cons] at h
    cases i with
    | zero =>
      simp at hx hy; subst hx
      intro e; exact h.1 (List.mem_map.2 ⟨y, hy, e⟩)
    | succ i =>
      have hx : l[i]? = some x := by simpa using hx
      simp only [List.eraseIdx_cons_succ, List.mem_cons] at hy
      rcases hy with rfl | hy
      · intro e; exact h.1 (List.mem_map.2 ⟨x, List.mem_of_getElem? hx, e.symm⟩)
      · exact ih h.2 hx hy

theorem map_erase {α β : Type} (f : α → β) : ∀ (l : List α) (i : Nat), (l.eraseIdx i).map f = (l.map f).eraseIdx i := by
  intro l
  induction l with
  | nil => intro i; rfl
  | cons a l ih =>
    intro i
    cases i with
    | zero => rfl
    | succ i => simp [ih]

/-- What is to do from time s on can be put in order. -/
theorem good_from {T : Nat} : ∀ (n : Nat) (todo : List (Dn × Nat)) (s : Nat), todo.length = n → s ≤ T → (∀ y ∈ todo, LinAt ex w kk y.1 y.2 ∧ 2 * s ≤ y.2 + 1 ∧ y.2 < 2 * T) → (todo.map fun y => (y.1.who, y.1.deed)).Nodup →
    (∀ v, s ≤ v → v < T → ¬ Still ex v → ∃ y ∈ todo, y.2 = 2 * v) → Good' kk (Has (ex T)) (Has (ex s)) (todo.map (·.1)) := by
  intro n
  induction n with
  | zero =>
    intro todo s hn hs _ _ hb
    have : todo = [] := List.eq_nil_of_length_eq_zero hn
    subst this
    refine .nil fun k => ?_
    have := still_all (ex := ex) (s := s) (T - s) (fun v h1 h2 => by
      by_cases h : Still ex v
      · exact h
      · obtain ⟨y, hy, _⟩ := hb v h1 (by omega) h; simp at hy)
    rw [show s + (T - s) = T by omega] at this
    exact (this k).symm
  | succ n ih =>
    intro todo s hn hs ha hd hb
    obtain ⟨i, ⟨x, p⟩, hx, hmin⟩ := least (fun y : Dn × Nat => y.2) todo (by intro h; rw [h] at hn; simp at hn)
    have hxm := List.mem_of_getElem? hx
    obtain ⟨hl, hps, hpT⟩ := ha _ hxm
    simp only at hl hps hpT hmin
    have hlen : (todo.eraseIdx i).length = n := by
      have := (List.getElem?_eq_some_iff.1 hx).1
      rw [List.length_eraseIdx_of_lt this]; omega
    have rt : ∀ y ∈ todo.map (fun z : Dn × Nat => z.1), ¬ ((y : Dn).fin < (x.beg : Int)) := by
      intro y hy
      obtain ⟨⟨y', q⟩, hm, rfl⟩ := List.mem_map.1 hy
      obtain ⟨h1, _⟩ := ha _ hm
      have h2 := hmin _ hm
      simp only at h1 h2
      obtain ⟨_, f, h3, h4⟩ := h1.rng
      have h5 := hl.rng.1
      simp only at h3 ⊢
      omega
    have hx' : (todo.map (fun z : Dn × Nat => z.1))[i]? = some x := by rw [List.getElem?_map, hx]; rfl
    have quiet : ∀ e, s ≤ e → e ≤ T → 2 * e ≤ p + 1 → ∀ k, Has (ex e) k ↔ Has (ex s) k := by
      intro e h1 h2 h3
      have := still_all (ex := ex) (s := s) (e - s) (fun v a b => by
        by_cases h : Still ex v
        · exact h
        · obtain ⟨y, hy, h5⟩ := hb v a (by omega) h
          have := hmin y hy
          omega)
      rw [show s + (e - s) = e by omega] at this
      exact this
    cases hl with
    | upd u f hf h1 h2 hm hi h3 he =>
      have q := quiet u (by omega) (by omega) (by omega)
      refine .pick (σ' := Has (ex (u + 1))) i x hx' rt ?_ ?_ ?_
      · obtain ⟨e1, e2⟩ := he
        rcases e1 with ⟨c1, c2, c3⟩ | ⟨c1, c2, c3⟩
        · left; exact ⟨c1, by rw [hi, ← q]; simp [c2]⟩
        · right; left; exact ⟨c1, by rw [hi, ← q]; simp [c2]⟩
      · intro k
        unfold After
        by_cases e : k = (kk x).2
        · subst e; rw [if_pos rfl]
          rcases he.1 with ⟨c1, c2, c3⟩ | ⟨c1, c2, c3⟩
          · simp [c1, c3]
          · simp [c1, c3]
        · rw [if_neg e, he.2 k e, q]
      · rw [← map_erase]
        refine ih _ (u + 1) hlen (by omega) ?_ (nodup_erase _ hd) ?_
        · intro y hy
          obtain ⟨a1, a2, a3⟩ := ha y (mem_erase hy)
          refine ⟨a1, ?_, a3⟩
          have hge := hmin y (mem_erase hy)
          have hne := nodup_ne (fun y : Dn × Nat => (y.1.who, y.1.deed)) hd hx hy
          obtain ⟨y1, y2⟩ := y
          try simp only at a1 hge hne ⊢
          cases a1 with
          | upd u' f' hf' g1 g2 gm =>
            by_cases e : u' = u
            · subst e
              have w1 : y1.who = x.who := gm.1.symm.trans hm.1
              have w2 : y1.deed = x.deed := gm.2.symm.trans (by rw [w1]; exact hm.2)
              exact absurd (by rw [w1, w2]) hne
            · omega
          | obs s' f' hf' g1 g2 => omega
        · intro v hv hvT hns
          obtain ⟨y, hy, h5⟩ := hb v (by omega) hvT hns
          rcases mem_or hx hy with h6 | h6
          · exact ⟨y, h6, h5⟩
          · subst h6; simp only at h5; omega
    | obs s' f hf h1 h2 hans =>
      have hs' : 1 ≤ s' := by omega
      have q := quiet s' (by omega) (by omega) (by omega)
      refine .pick (σ' := Has (ex s)) i x hx' rt ?_ ?_ ?_
      · unfold Right
        rcases hans with ⟨c1, c2, c3⟩ | ⟨c1, c2, c3⟩ | ⟨c1, c2⟩
        · left; refine ⟨c1, ?_⟩; rw [q] at c3; simp [c2, c3]
        · right; left; refine ⟨c1, ?_⟩; rw [q] at c3; simp [c2, c3]
        · right; right; refine ⟨c1, ?_⟩; rw [q] at c2; exact c2
      · intro k
        unfold After
        by_cases e : k = (kk x).2
        · subst e; rw [if_pos rfl]
          rcases hans with ⟨c1, c2, c3⟩ | ⟨c1, c2, c3⟩ | ⟨c1, c2⟩
          · rw [q] at c3; simp [c1, c3]
          · rw [q] at c3; simp [c1, c3]
          · simp [c1]
        · rw [if_neg e]
      · rw [← map_erase]
        refine ih _ s hlen hs (fun y hy => ha y (mem_erase hy)) (nodup_erase _ hd) ?_
        intro v hv hvT hns
        obtain ⟨y, hy, h5⟩ := hb v hv hvT hns
        rcases mem_or hx hy with h6 | h6
        · exact ⟨y, h6, h5⟩
        · subst h6; simp only at h5; omega
end
end Go.Ha

namespace Go.Ha

theorem pairs {α : Type} {P : α → Nat → Prop} : ∀ (l : List α), (∀ d ∈ l, ∃ p, P d p) → ∃ l' : List (α × Nat), l'.map (fun z => z.1) = l ∧ ∀ y ∈ l', P y.1 y.2 := by
  intro l
  induction l with
  | nil => intro _; exact ⟨[], rfl, fun y hy => by simp at hy⟩
  | cons a l ih =>
    intro h
    obtain ⟨l', h1, h2⟩ := ih fun d hd => h d (List.mem_cons_of_mem _ hd)
    obtain ⟨p, hp⟩ := h a List.mem_cons_self
    refine ⟨(a, p) :: l', by simp [h1], fun y hy => ?_⟩
    simp only [List.mem_cons] at hy
    rcases hy with rfl | hy
    · exact hp
    · exact h2 y hy

theorem mem_done {S : Sys} {d : Dn} : ∀ (n j : Nat), d ∈ doneFrom S n j ↔ ∃ i, j ≤ i ∧ i < j + n ∧ d ∈ S.told i := by
  intro n
  induction n with
  | zero => intro j; simp only [doneFrom, List.not_mem_nil, false_iff]; rintro ⟨i, h1, h2, _⟩; omega
  | succ n ih =>
    intro j
    simp only [doneFrom, List.mem_append, ih]
    constructor
    · rintro (h | ⟨i, h1, h2, h3⟩)
      · exact ⟨j, Nat.le_refl _, by omega, h⟩
      · exact ⟨i, by omega, by omega, h3⟩
    · rintro ⟨i, h1, h2, h3⟩
      by_cases e : i = j
      · subst e; exact .inl h3
      · exact .inr ⟨i, by omega, by omega, h3⟩

theorem nodup_told {l : List Dn} {j : Nat} (h : ∀ (i : Nat) (d : Dn), l[i]? = some d → d.who = j ∧ d.deed = i) : (l.map fun d => (d.who, d.deed)).Nodup := by
  unfold List.Nodup
  rw [List.pairwise_iff_getElem]
  intro a b ha hb hab
  simp only [List.length_map] at ha hb
  simp only [List.getElem_map]
  intro e
  have h1 := h a l[a] (List.getElem?_eq_getElem ha)
  have h2 := h b l[b] (List.getElem?_eq_getElem hb)
  have := congrArg Prod.snd e
  simp only at this
  omega

theorem nodup_done {S : Sys} : ∀ (n j : Nat), (∀ m, j ≤ m → m < j + n → ∀ (i : Nat) (d : Dn), (S.told m)[i]? = some d → d.who = m ∧ d.deed = i) → ((doneFrom S n j).map fun d => (d.who, d.deed)).Nodup := by
  intro n
  induction n with
  | zero => intro j _; exact List.nodup_nil
  | succ n ih =>
    intro j h
    simp only [doneFrom, List.map_append]
    refine List.nodup_append.2 ⟨nodup_told (j := j) (h j (Nat.le_refl _) (by omega)), ih (j + 1) fun m h1 h2 => h m (by omega) (by omega), ?_⟩
    intro x hx y hy e
    obtain ⟨d, hd, rfl⟩ := List.mem_map.1 hx
    obtain ⟨d', hd', rfl⟩ := List.mem_map.1 hy
    obtain ⟨i, hi⟩ := List.getElem?_of_mem hd
    obtain ⟨m, m1, m2, m3⟩ := (mem_done n (j + 1)).1 hd'
    obtain ⟨i', hi'⟩ := List.getElem?_of_mem m3
    have h1 := (h j (Nat.le_refl _) (by omega) i d hi).1
    have h2 := (h m (by omega) (by omega) i' d' hi').1
    have := congrArg Prod.fst e
    simp only at this
    omega

/-- Kind and key of a deed that was told. -/
def kkOf (progs : List (List (Int × Int))) (d : Dn) : Int × Int := (progs.getD d.who []).getD d.deed (0, 0)

section
variable {algo : Int} {start order : List Int} {progs : List (List (Int × Int))}

/-- What is told of a whole run. -/
structure Whole (algo : Int) (start : List Int) (progs : List (List (Int × Int))) (order : List Int) : Prop where
  sound : Inv (runS algo start progs order) ∧ AInv (runS algo start progs order)
  nh : (runS algo start progs order).nh = progs.length
  len : ∀ j, j < progs.length → ((runS algo start progs order).told j).length = (progs.getD j []).length
  who : ∀ j, j < progs.length → ∀ (i : Nat) (d : Dn), ((runS algo start progs order).told j)[i]? = some d → d.who = j ∧ d.deed = i ∧ ∃ f : Nat, d.fin = f ∧ d.beg ≤ f
  good : Good' (kkOf progs) (Has (runS algo start progs order)) (Has (sys0 algo start progs)) (doneL (runS algo start progs order))

theorem whole (hr : rightE algo start progs order = 0) (h4 : algo ≠ 4) : Whole algo start progs order := by
  obtain ⟨ex, w, T, R, e0, eT, hdone⟩ := run_whole hr h4
  have X := atTime R T (Nat.le_refl _)
  have nh0 : (ex 0).nh = progs.length := by rw [e0]; rfl
  have hprog : ∀ t, t ≤ T → ∀ j, ((ex t).hands j).prog = progs.getD j [] := by
    intro t ht j; rw [(atTime R t ht).prog j, e0]; rfl
  rw [← eT] at hdone
  -- all is done
  have fin : ∀ j, j < progs.length → ((ex T).hands j).st = none ∧ ((ex T).hands j).pos = (progs.getD j []).length ∧ ((ex T).told j).length = (progs.getD j []).length := by
    intro j hj
    have hjn : j < (ex T).nh := by rw [X.nh, nh0]; exact hj
    have H := X.inv.hands j hjn
    have hd := hdone j hj
    have hpn : ((ex T).hands j).prog[((ex T).hands j).pos]? = none := by
      unfold hasDeed at hd
      cases h : ((ex T).hands j).prog[((ex T).hands j).pos]? with
      | none => rfl
      | some d => rw [h] at hd; simp at hd
    have hst : ((ex T).hands j).st = none := by
      cases h : ((ex T).hands j).st with
      | none => rfl
      | some s =>
        obtain ⟨kd, k, h1, _⟩ := H.at' s h
        rw [hpn] at h1; simp at h1
    have hp := List.getElem?_eq_none_iff.1 hpn
    have h2 := H.pos
    have h3 := H.told
    rw [if_pos hst] at h3
    rw [hprog T (Nat.le_refl _)] at hp h2
    exact ⟨hst, by omega, by omega⟩
  have who : ∀ j, j < progs.length → ∀ (i : Nat) (d : Dn), ((ex T).told j)[i]? = some d → d.who = j ∧ d.deed = i := by
    intro j hj i d hd
    have := (X.tr j (by rw [nh0]; exact hj)).who i d hd
    exact ⟨this.1, this.2.1⟩
  have ended : ∀ j, j < progs.length → ∀ (i : Nat) (d : Dn), ((ex T).told j)[i]? = some d → Ended ex w T j i d (kkOf progs d).1 (kkOf progs d).2 := by
    intro j hj i d hd
    obtain ⟨a, b, c⟩ := fin j hj
    have hi := (List.getElem?_eq_some_iff.1 hd).1
    obtain ⟨w1, w2⟩ := who j hj i d hd
    have hk : (progs.getD j [])[i]? = some (kkOf progs d) := by
      have hlt : i < (progs.getD j []).length := by omega
      unfold kkOf; rw [w1, w2]
      generalize progs.getD j [] = l at hlt ⊢
      simp [hlt]
    exact (X.tr j (by rw [nh0]; exact hj)).done i d hd (by omega) _ _ (by rw [hprog T (Nat.le_refl _)]; exact hk)
  refine ⟨by rw [← eT]; exact ⟨X.inv, X.ainv⟩, by rw [← eT, X.nh, nh0], fun j hj => by rw [← eT]; exact (fin j hj).2.2, ?_, ?_⟩ <;> rw [← eT]
  · intro j hj i d hd
    obtain ⟨w1, w2⟩ := who j hj i d hd
    obtain ⟨f, h1, h2, _⟩ := ended j hj i d hd
    exact ⟨w1, w2, f, h1, h2⟩
  · have hdl : doneL (ex T) = doneFrom (ex T) progs.length 0 := by unfold doneL; rw [X.nh, nh0]
    obtain ⟨l', hl1, hl2⟩ := pairs (P := fun d p => LinAt ex w (kkOf progs) d p ∧ p < 2 * T ∧ ∀ v, v < T → Mine ex w d.who d.deed v → ¬ Still ex v → p = 2 * v) (doneL (ex T)) (by
      intro d hd
      rw [hdl] at hd
      obtain ⟨j, _, hj, hm⟩ := (mem_done _ _).1 hd
      obtain ⟨i, hi⟩ := List.getElem?_of_mem hm
      have hj' : j < progs.length := by omega
      obtain ⟨w1, w2⟩ := who j hj' i d hi
      obtain ⟨f, h1, h2, h3, h5⟩ := ended j hj' i d hi
      rcases h5 with ⟨g1, g2, u, u1, u2, u3, u4, u5, u6⟩ | ⟨g1, s, s1, s2, s3⟩
      · refine ⟨2 * u, .upd u f h1 u1 u2 (by rw [w1, w2]; exact u4) g1 g2 u5, by omega, ?_⟩
        intro v hv hm hns
        rw [w1, w2] at hm
        by_cases e : v = u
        · omega
        · exact absurd (u6 v hv hm e) hns
      · refine ⟨2 * s - 1, .obs s f h1 s1 s2 s3, by omega, ?_⟩
        intro v hv hm hns
        rw [w1, w2] at hm
        exact absurd (g1 v hv hm) hns)
    have nd : (l'.map fun y => (y.1.who, y.1.deed)).Nodup := by
      have e : (l'.map fun y => (y.1.who, y.1.deed)) = (l'.map (fun z => z.1)).map fun d => (d.who, d.deed) := by rw [List.map_map]; rfl
      rw [e, hl1, hdl]
      exact nodup_done _ _ fun m _ hm i d h => who m (by omega) i d h
    have := good_from (ex := ex) (w := w) (kk := kkOf progs) (T := T) l'.length l' 0 rfl (Nat.zero_le _) (fun y hy => ⟨(hl2 y hy).1, by omega, (hl2 y hy).2.1⟩) nd (by
      intro v _ hv hns
      obtain ⟨hw, hdeed, hstep⟩ := R.step v hv
      have hj : w v < progs.length := by rw [nh0] at hw; exact hw
      have Xv := atTime R v (by omega)
      -- the deed of that step
      have hi : ((ex v).hands (w v)).pos < ((ex T).told (w v)).length := by
        rw [(fin _ hj).2.2]
        unfold hasDeed at hdeed
        obtain ⟨d, hd⟩ := Option.isSome_iff_exists.1 hdeed
        rw [hprog v (by omega)] at hd
        exact (List.getElem?_eq_some_iff.1 hd).1
      obtain ⟨d, hd⟩ : ∃ d, ((ex T).told (w v))[((ex v).hands (w v)).pos]? = some d := ⟨_, List.getElem?_eq_getElem hi⟩
      obtain ⟨w1, w2⟩ := who _ hj _ d hd
      have hmem : d ∈ doneL (ex T) := by rw [hdl]; exact (mem_done _ _).2 ⟨w v, Nat.zero_le _, by omega, List.mem_of_getElem? hd⟩
      rw [← hl1] at hmem
      obtain ⟨y, hy, e⟩ := List.mem_map.1 hmem
      refine ⟨y, hy, (hl2 y hy).2.2 v hv ?_ hns⟩
      rw [e]
      exact ⟨w1.symm, by rw [w1]; exact w2.symm⟩)
    rw [hl1, e0] at this
    exact this
end
end Go.Ha

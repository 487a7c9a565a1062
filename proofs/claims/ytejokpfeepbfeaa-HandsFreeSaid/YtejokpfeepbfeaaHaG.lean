/-
  Hands: one hand alone: what it answers, and when.
  Hands: one hand alone: its run.
  Hands: the reference's Between and KeySet.
  Hands: one row of numbers that is handed in, laid.
-/
import Derived.Test.YtejokpfeepbfeaaHaD
import Derived.Test.YtejokpfeepbfeaaHaC
import Derived.Test.YtejokpfeepbfeaaHaE
import Derived.Test.YtejokpfeepbfeaaHaF
set_option linter.unusedSimpArgs false
set_option linter.unusedVariables false
set_option linter.unnecessarySimpa false
namespace Go.Ha

def soloHeld (s : St) (i : Nat) : List Nat :=
  match s with
  | .l1 | .z3 => [i]
  | .l2 | .z4 | .z5 => [i, i + 1]
  | _ => []

def late (s : St) : Bool :=
  match s with
  | .z5 | .m3 => true
  | _ => false

@[simp] theorem lockN_hands (S : Sys) (i : Nat) (b : Bool) : (S.lockN i b).hands = S.hands := rfl
@[simp] theorem markN_hands (S : Sys) (i : Nat) (b : Bool) : (S.markN i b).hands = S.hands := rfl
@[simp] theorem nextN_hands (S : Sys) (i k : Nat) : (S.nextN i k).hands = S.hands := rfl
@[simp] theorem setN_hands (S : Sys) (i : Nat) (x : Nd) : (S.setN i x).hands = S.hands := rfl
@[simp] theorem add_hands (S : Sys) (x : Nd) : (S.add x).hands = S.hands := rfl

/-- One hand at its one deed. -/
structure Solo (start : List Int) (kd k : Int) (S : Sys) (s : St) (i : Nat) : Prop where
  nh : S.nh = 1
  prog : (S.hands 0).prog = [(kd, k)]
  pos : (S.hands 0).pos = 0
  st : (S.hands 0).st = some s
  not2 : s ≠ .z2
  pc : s.begins = false → (S.hands 0).p = some i ∧ (S.hands 0).c = some (i + 1) ∧ (node0 start i).key < k
  le : i ≤ start.length
  next : ∀ j, j ≤ start.length + 1 → (S.nodes j).next = (node0 start j).next
  key : ∀ j, j ≤ start.length + 1 → (S.nodes j).key = (node0 start j).key
  mark : ∀ j, j ≤ start.length + 1 → (S.nodes j).mark = (late s && decide (j = i + 1))
  lock : ∀ j, j ≤ start.length + 1 → (S.nodes j).lock = decide (j ∈ soloHeld s i)
  ahead : s = .z3 ∨ s = .z4 ∨ s = .z5 ∨ s = .m2 ∨ s = .m3 → k ≤ (node0 start (i + 1)).key
  sure : late s = true → (S.hands 0).is = true ∧ (node0 start (i + 1)).key = k ∧ kd = 2
  nz : s = .z3 ∨ s = .z4 → kd ≠ 3
  two : s = .m2 → kd ≠ 3 ∧ (kd = 1 ↔ (node0 start (i + 1)).key ≠ k)

/-- How many steps at most. -/
def soloW (n : Nat) (s : St) (i : Nat) : Nat :=
  match s with
  | .l0 => 2 * n + 3
  | .l1 => 2 * (n - i) + 2
  | .l2 => 2 * (n - i) + 1
  | .z0 => n + 5
  | .z1 => n - i + 4
  | .z2 => 4
  | .z3 => 3
  | .z4 => 2
  | .z5 => 1
  | .m0 => n + 4
  | .m1 => n - i + 3
  | .m2 => 2
  | .m3 => 1

section
variable {start : List Int} {kd k : Int} {S : Sys} {s : St} {i : Nat}

theorem node0_next {start : List Int} {j : Nat} (h : j ≤ start.length) : (node0 start j).next = some (j + 1) := by
  unfold node0
  split
  · rename_i e; subst e; rfl
  · first | rfl | (rw [if_pos h])

/-- One step of one alone. -/
theorem solo_act (A : Solo start kd k S s i) (hkd : kd = 1 ∨ kd = 2 ∨ kd = 3) (hk : 0 ≤ k ∧ k ≤ 9) :
    ((act S 0 kd k).2 = true ∧ ∃ j, j ≤ start.length ∧ (node0 start j).key < k ∧ k ≤ (node0 start (j + 1)).key ∧ ((act S 0 kd k).1.hands 0).is = (((node0 start (j + 1)).key == k) == (kd != 1))) ∨
    ((act S 0 kd k).2 = false ∧ ∃ s' i', Solo start kd k (act S 0 kd k).1 s' i' ∧ soloW start.length s' i' < soloW start.length s i) := by
  have hs := A.st
  have hle := A.le
  have hnx := A.next
  have hky := A.key
  have hmk := A.mark
  have hlk := A.lock
  have n0 : (S.nodes 0).next = some 1 := by rw [hnx 0 (by omega)]; exact node0_next (by omega)
  have kl : (node0 start (start.length + 1)).key = 10 := by rw [node0_last]
  have k0 : (node0 start 0).key = -1 := by rw [node0_head]
  have i1 : i + 1 ≤ start.length + 1 := by omega
  have fresh : ∀ (T : Sys) (x : Hd) (t : St) (m : Nat), T.nodes = S.nodes → late s = false → late t = false → soloHeld t m = soloHeld s i → x.prog = (S.hands 0).prog → x.pos = (S.hands 0).pos → T.nh = 1 → T.hands 0 = x → x.st = some t → t ≠ .z2 → m ≤ start.length →
      (t.begins = false → x.p = some m ∧ x.c = some (m + 1) ∧ (node0 start m).key < k) → (t = .z3 ∨ t = .z4 ∨ t = .z5 ∨ t = .m2 ∨ t = .m3 → k ≤ (node0 start (m + 1)).key) → (t = .z3 ∨ t = .z4 → kd ≠ 3) → (t = .m2 → kd ≠ 3 ∧ (kd = 1 ↔ (node0 start (m + 1)).key ≠ k)) → Solo start kd k T t m := by
    intro T x t m hT hls hlt hh hp hpos hnh hx hst h2 hm hpc ha hnz htwo
    refine ⟨hnh, by rw [hx, hp]; exact A.prog, by rw [hx, hpos]; exact A.pos, by rw [hx]; exact hst, h2, by rw [hx]; exact hpc, hm, by rw [hT]; exact hnx, by rw [hT]; exact hky, fun j hj => ?_, fun j hj => ?_, ha, fun h => ?_, hnz, htwo⟩
    · rw [hT, hmk j hj, hls, hlt]; simp
    · rw [hT, hlk j hj, hh]
    · rw [hlt] at h; simp at h
  cases s with
  | l0 =>
    have l0 : (S.nodes 0).lock = false := by rw [hlk 0 (by omega)]; simp [soloHeld]
    obtain ⟨x, hx⟩ : ∃ x, x = { S.hands 0 with p := some 0, c := some 1, st := some .l1 } := ⟨_, rfl⟩
    have e : act S 0 kd k = ((S.lockN 0 true).setH 0 x, false) := by simp only [act, hs]; rw [if_neg (by rw [l0]; simp), n0, hx]
    right
    rw [e]
    refine ⟨rfl, .l1, 0, ⟨A.nh, by simp only [hands_setH]; rw [hx]; exact A.prog, by simp only [hands_setH]; rw [hx]; exact A.pos, by simp only [hands_setH]; rw [hx], by simp, fun _ => by simp only [hands_setH]; rw [hx]; exact ⟨rfl, rfl, by rw [k0]; omega⟩, by omega, fun j hj => by simp [hnx j hj], fun j hj => by simp [hky j hj], fun j hj => by simp [hmk j hj, late], fun j hj => ?_, fun h => by simp at h, fun h => by simp [late] at h, fun h => by simp at h, fun h => by simp at h⟩, by simp [soloW]⟩
    simp only [setH_nodes, lockN_lock, hlk j hj, soloHeld]
    by_cases e0 : j = 0
    · subst e0; simp
    · simp [e0]
  | l1 =>
    obtain ⟨hp, hc, hlt⟩ := A.pc rfl
    have lc : (S.nodes (i + 1)).lock = false := by rw [hlk _ i1]; simp [soloHeld]
    obtain ⟨x, hx⟩ : ∃ x, x = { S.hands 0 with st := some .l2 } := ⟨_, rfl⟩
    have e : act S 0 kd k = ((S.lockN (i + 1) true).setH 0 x, false) := by simp only [act, hs, hc, Option.getD_some]; rw [if_neg (by rw [lc]; simp), hx]; simp only [hc]
    right
    rw [e]
    refine ⟨rfl, .l2, i, ⟨A.nh, by simp only [hands_setH]; rw [hx]; exact A.prog, by simp only [hands_setH]; rw [hx]; exact A.pos, by simp only [hands_setH]; rw [hx], by simp, fun _ => by simp only [hands_setH]; rw [hx]; exact ⟨hp, hc, hlt⟩, hle, fun j hj => by simp [hnx j hj], fun j hj => by simp [hky j hj], fun j hj => by simp [hmk j hj, late], fun j hj => ?_, fun h => by simp at h, fun h => by simp [late] at h, fun h => by simp at h, fun h => by simp at h⟩, by simp [soloW]⟩
    simp only [setH_nodes, lockN_lock, hlk j hj, soloHeld]
    by_cases e0 : j = i + 1
    · subst e0; simp
    · simp [e0]
  | l2 =>
    obtain ⟨hp, hc, hlt⟩ := A.pc rfl
    have kc := hky _ i1
    by_cases hk2 : (node0 start (i + 1)).key < k
    · have hi : i + 1 ≤ start.length := by
        by_cases e : i + 1 = start.length + 1
        · rw [e, kl] at hk2; omega
        · omega
      have nc : (S.nodes (i + 1)).next = some (i + 2) := by rw [hnx _ i1]; exact node0_next hi
      obtain ⟨x, hx⟩ : ∃ x, x = { S.hands 0 with p := some (i + 1), c := some (i + 2), st := some .l1 } := ⟨_, rfl⟩
      have e : act S 0 kd k = ((S.lockN i false).setH 0 x, false) := by simp only [act, hs, hp, hc, Option.getD_some]; rw [if_pos (by rw [kc]; exact hk2), nc, hx]
      right
      rw [e]
      refine ⟨rfl, .l1, i + 1, ⟨A.nh, by simp only [hands_setH]; rw [hx]; exact A.prog, by simp only [hands_setH]; rw [hx]; exact A.pos, by simp only [hands_setH]; rw [hx], by simp, fun _ => by simp only [hands_setH]; rw [hx]; exact ⟨rfl, rfl, hk2⟩, hi, fun j hj => by simp [hnx j hj], fun j hj => by simp [hky j hj], fun j hj => by simp [hmk j hj, late], fun j hj => ?_, fun h => by simp at h, fun h => by simp [late] at h, fun h => by simp at h, fun h => by simp at h⟩, by simp only [soloW]; omega⟩
      simp only [setH_nodes, lockN_lock, hlk j hj, soloHeld]
      by_cases e0 : j = i
      · subst e0; simp
      · simp [e0]
    · left
      have hn : ¬ (S.nodes (i + 1)).key < k := by rw [kc]; exact hk2
      refine ⟨by simp only [act, hs, hp, hc, Option.getD_some]; rw [if_neg hn], i, hle, hlt, by omega, ?_⟩
      simp only [act, hs, hp, hc, Option.getD_some]; rw [if_neg hn]
      simp only [kc]
      split
      · simp
      · split
        · simp
        · simp
  | z0 =>
    obtain ⟨x, hx⟩ : ∃ x, x = { S.hands 0 with p := some 0, c := some 1, st := some .z1 } := ⟨_, rfl⟩
    have e : act S 0 kd k = (S.setH 0 x, false) := by simp only [act, hs]; rw [n0, hx]
    right
    rw [e]
    exact ⟨rfl, .z1, 0, fresh _ x .z1 0 rfl rfl rfl rfl (by rw [hx]) (by rw [hx]) A.nh (hands_setH _ _ _) (by rw [hx]) (by simp) (by omega) (fun _ => by rw [hx]; exact ⟨rfl, rfl, by rw [k0]; omega⟩) (fun h => by simp at h) (fun h => by simp at h) (fun h => by simp at h), by simp only [soloW]; omega⟩
  | z1 =>
    obtain ⟨hp, hc, hlt⟩ := A.pc rfl
    have kc := hky _ i1
    have mc : (S.nodes (i + 1)).mark = false := by rw [hmk _ i1]; rfl
    by_cases hk2 : (node0 start (i + 1)).key < k
    · have hi : i + 1 ≤ start.length := by
        by_cases e : i + 1 = start.length + 1
        · rw [e, kl] at hk2; omega
        · omega
      have nc : (S.nodes (i + 1)).next = some (i + 2) := by rw [hnx _ i1]; exact node0_next hi
      obtain ⟨x, hx⟩ : ∃ x, x = { S.hands 0 with p := some (i + 1), c := some (i + 2) } := ⟨_, rfl⟩
      have e : act S 0 kd k = (S.setH 0 x, false) := by simp only [act, hs, hp, hc, Option.getD_some]; rw [if_pos (by rw [kc]; exact hk2), nc, hx]; simp only [hs]
      right
      rw [e]
      exact ⟨rfl, .z1, i + 1, fresh _ x .z1 (i + 1) rfl rfl rfl rfl (by rw [hx]) (by rw [hx]) A.nh (hands_setH _ _ _) (by rw [hx]; exact hs) (by simp) hi (fun _ => by rw [hx]; exact ⟨rfl, rfl, hk2⟩) (fun h => by simp at h) (fun h => by simp at h) (fun h => by simp at h), by simp only [soloW]; omega⟩
    · have hn : ¬ (S.nodes (i + 1)).key < k := by rw [kc]; exact hk2
      by_cases h3 : kd = 3
      · left
        refine ⟨by simp only [act, hs, hp, hc, Option.getD_some]; rw [if_neg hn, if_pos h3], i, hle, hlt, by omega, ?_⟩
        simp only [act, hs, hp, hc, Option.getD_some]; rw [if_neg hn, if_pos h3]
        simp only [hands_setH, kc, mc, h3]; simp
      · have lp : (S.nodes i).lock = false := by rw [hlk i (by omega)]; simp [soloHeld]
        obtain ⟨x, hx⟩ : ∃ x, x = { S.hands 0 with st := some .z3 } := ⟨_, rfl⟩
        have e : act S 0 kd k = ((S.lockN i true).setH 0 x, false) := by simp only [act, hs, hp, hc, Option.getD_some]; rw [if_neg hn, if_neg h3]; unfold first; rw [if_neg (by rw [lp]; simp), hx]
        right
        rw [e]
        refine ⟨rfl, .z3, i, ⟨A.nh, by simp only [hands_setH]; rw [hx]; exact A.prog, by simp only [hands_setH]; rw [hx]; exact A.pos, by simp only [hands_setH]; rw [hx], by simp, fun _ => by simp only [hands_setH]; rw [hx]; exact ⟨hp, hc, hlt⟩, hle, fun j hj => by simp [hnx j hj], fun j hj => by simp [hky j hj], fun j hj => by simp [hmk j hj, late], fun j hj => ?_, fun _ => by omega, fun h => by simp [late] at h, fun _ => h3, fun h => by simp at h⟩, by simp only [soloW]; omega⟩
        simp only [setH_nodes, lockN_lock, hlk j hj, soloHeld]
        by_cases e0 : j = i
        · subst e0; simp
        · simp [e0]
  | z2 => exact absurd rfl A.not2
  | z3 =>
    obtain ⟨hp, hc, hlt⟩ := A.pc rfl
    have lc : (S.nodes (i + 1)).lock = false := by rw [hlk _ i1]; simp [soloHeld]
    obtain ⟨x, hx⟩ : ∃ x, x = { S.hands 0 with st := some .z4 } := ⟨_, rfl⟩
    have e : act S 0 kd k = ((S.lockN (i + 1) true).setH 0 x, false) := by simp only [act, hs, hc, Option.getD_some]; rw [if_neg (by rw [lc]; simp), hx]; simp only [hc]
    right
    rw [e]
    refine ⟨rfl, .z4, i, ⟨A.nh, by simp only [hands_setH]; rw [hx]; exact A.prog, by simp only [hands_setH]; rw [hx]; exact A.pos, by simp only [hands_setH]; rw [hx], by simp, fun _ => by simp only [hands_setH]; rw [hx]; exact ⟨hp, hc, hlt⟩, hle, fun j hj => by simp [hnx j hj], fun j hj => by simp [hky j hj], fun j hj => by simp [hmk j hj, late], fun j hj => ?_, fun _ => A.ahead (by simp), fun h => by simp [late] at h, fun _ => A.nz (.inl rfl), fun h => by simp at h⟩, by simp [soloW]⟩
    simp only [setH_nodes, lockN_lock, hlk j hj, soloHeld]
    by_cases e0 : j = i + 1
    · subst e0; simp
    · simp [e0]
  | z4 =>
    obtain ⟨hp, hc, hlt⟩ := A.pc rfl
    have kc := hky _ i1
    have hge := A.ahead (by simp)
    have mc : (S.nodes (i + 1)).mark = false := by rw [hmk _ i1]; rfl
    have mp : (S.nodes i).mark = false := by rw [hmk i (by omega)]; rfl
    have np : (S.nodes i).next = some (i + 1) := by rw [hnx i (by omega)]; exact node0_next hle
    have hf : ¬ ((S.nodes i).mark || (S.nodes (i + 1)).mark || !((S.nodes i).next == some (i + 1))) = true := by rw [mc, mp, np]; simp
    by_cases h1 : kd = 1
    · left
      refine ⟨by simp only [act, hs, hp, hc, Option.getD_some]; rw [if_neg hf, if_pos h1], i, hle, hlt, hge, ?_⟩
      simp only [act, hs, hp, hc, Option.getD_some]; rw [if_neg hf, if_pos h1]
      simp only [kc]
      split
      · simp [h1]
      · simp [h1]
    · by_cases hq : (node0 start (i + 1)).key = k
      · obtain ⟨x, hx⟩ : ∃ x, x = { S.hands 0 with is := true, st := some .z5 } := ⟨_, rfl⟩
        have h3 := A.nz (.inr rfl)
        · have h2 : kd = 2 := by omega
          have e : act S 0 kd k = ((S.markN (i + 1) true).setH 0 x, false) := by simp only [act, hs, hp, hc, Option.getD_some]; rw [if_neg hf, if_neg h1, if_pos (by rw [kc]; exact hq), hx]; simp only [hp, hc]
          right
          rw [e]
          refine ⟨rfl, .z5, i, ⟨A.nh, by simp only [hands_setH]; rw [hx]; exact A.prog, by simp only [hands_setH]; rw [hx]; exact A.pos, by simp only [hands_setH]; rw [hx], by simp, fun _ => by simp only [hands_setH]; rw [hx]; exact ⟨hp, hc, hlt⟩, hle, fun j hj => by simp [hnx j hj], fun j hj => by simp [hky j hj], fun j hj => ?_, fun j hj => by simp [hlk j hj, soloHeld], fun _ => hge, fun _ => by simp only [hands_setH]; rw [hx]; exact ⟨rfl, hq, h2⟩, fun h => by simp at h, fun h => by simp at h⟩, by simp [soloW]⟩
          simp only [setH_nodes, markN_mark, hmk j hj, late]
          by_cases e0 : j = i + 1
          · simp [e0]
          · simp [e0]
      · left
        have hq' : ¬ (S.nodes (i + 1)).key = k := by rw [kc]; exact hq
        refine ⟨by simp only [act, hs, hp, hc, Option.getD_some]; rw [if_neg hf, if_neg h1, if_neg hq'], i, hle, hlt, hge, ?_⟩
        simp only [act, hs, hp, hc, Option.getD_some]; rw [if_neg hf, if_neg h1, if_neg hq']
        rw [beq_false_of_ne hq, bne_iff_ne.2 h1]; simp
  | z5 =>
    obtain ⟨hp, hc, hlt⟩ := A.pc rfl
    obtain ⟨s1, s2, s3⟩ := A.sure rfl
    left
    refine ⟨by simp only [act, hs], i, hle, hlt, A.ahead (by simp), ?_⟩
    simp only [act, hs, hp, hc, Option.getD_some]
    show (S.hands 0).is = _; rw [s1, s2, s3]; simp
  | m0 =>
    obtain ⟨x, hx⟩ : ∃ x, x = { S.hands 0 with p := some 0, c := some 1, st := some .m1 } := ⟨_, rfl⟩
    have e : act S 0 kd k = (S.setH 0 x, false) := by simp only [act, hs]; rw [n0, hx]
    right
    rw [e]
    exact ⟨rfl, .m1, 0, fresh _ x .m1 0 rfl rfl rfl rfl (by rw [hx]) (by rw [hx]) A.nh (hands_setH _ _ _) (by rw [hx]) (by simp) (by omega) (fun _ => by rw [hx]; exact ⟨rfl, rfl, by rw [k0]; omega⟩) (fun h => by simp at h) (fun h => by simp at h) (fun h => by simp at h), by simp only [soloW]; omega⟩
  | m1 =>
    obtain ⟨hp, hc, hlt⟩ := A.pc rfl
    have kc := hky _ i1
    have mc : (S.nodes (i + 1)).mark = false := by rw [hmk _ i1]; rfl
    have hm : ¬ ((S.nodes (i + 1)).mark = true ∧ kd ≠ 3) := by rw [mc]; simp
    by_cases hk2 : (node0 start (i + 1)).key < k
    · have hi : i + 1 ≤ start.length := by
        by_cases e : i + 1 = start.length + 1
        · rw [e, kl] at hk2; omega
        · omega
      have nc : (S.nodes (i + 1)).next = some (i + 2) := by rw [hnx _ i1]; exact node0_next hi
      obtain ⟨x, hx⟩ : ∃ x, x = { S.hands 0 with p := some (i + 1), c := some (i + 2) } := ⟨_, rfl⟩
      have e : act S 0 kd k = (S.setH 0 x, false) := by simp only [act, hs, hp, hc, Option.getD_some]; rw [if_neg hm, if_pos (by rw [kc]; exact hk2), nc, hx]; simp only [hs]
      right
      rw [e]
      exact ⟨rfl, .m1, i + 1, fresh _ x .m1 (i + 1) rfl rfl rfl rfl (by rw [hx]) (by rw [hx]) A.nh (hands_setH _ _ _) (by rw [hx]; exact hs) (by simp) hi (fun _ => by rw [hx]; exact ⟨rfl, rfl, hk2⟩) (fun h => by simp at h) (fun h => by simp at h) (fun h => by simp at h), by simp only [soloW]; omega⟩
    · have hn : ¬ (S.nodes (i + 1)).key < k := by rw [kc]; exact hk2
      by_cases h3 : kd = 3
      · left
        refine ⟨by simp only [act, hs, hp, hc, Option.getD_some]; rw [if_neg hm, if_neg hn, if_pos h3], i, hle, hlt, by omega, ?_⟩
        simp only [act, hs, hp, hc, Option.getD_some]; rw [if_neg hm, if_neg hn, if_pos h3]
        simp only [hands_setH, kc, mc, h3]; simp
      · by_cases hq : (((S.nodes (i + 1)).key == k) == (kd == 1)) = true
        · left
          refine ⟨by simp only [act, hs, hp, hc, Option.getD_some]; rw [if_neg hm, if_neg hn, if_neg h3, if_pos hq], i, hle, hlt, by omega, ?_⟩
          simp only [act, hs, hp, hc, Option.getD_some]; rw [if_neg hm, if_neg hn, if_neg h3, if_pos hq]
          simp only [hands_setH]
          rw [kc] at hq
          by_cases e1 : kd = 1
          · simp [e1] at hq ⊢; exact hq
          · have : ¬ (node0 start (i + 1)).key = k := by intro e; rw [e] at hq; simp at hq; exact e1 hq
            rw [beq_false_of_ne this, bne_iff_ne.2 e1]; rfl
        · obtain ⟨x, hx⟩ : ∃ x, x = { S.hands 0 with st := some .m2 } := ⟨_, rfl⟩
          have e : act S 0 kd k = (S.setH 0 x, false) := by simp only [act, hs, hp, hc, Option.getD_some]; rw [if_neg hm, if_neg hn, if_neg h3, if_neg hq, hx]; simp only [hp, hc]
          right
          rw [e]
          refine ⟨rfl, .m2, i, fresh _ x .m2 i rfl rfl rfl rfl (by rw [hx]) (by rw [hx]) A.nh (hands_setH _ _ _) (by rw [hx]) (by simp) hle (fun _ => by rw [hx]; exact ⟨hp, hc, hlt⟩) (fun _ => by omega) (fun h => by simp at h) (fun _ => ⟨h3, ?_⟩), by simp only [soloW]; omega⟩
          rw [kc] at hq
          by_cases e1 : kd = 1
          · simp [e1] at hq ⊢; exact hq
          · simp only [e1, false_iff, ne_eq, Decidable.not_not]
            by_cases e2 : (node0 start (i + 1)).key = k
            · exact e2
            · rw [beq_false_of_ne e2, beq_false_of_ne e1] at hq; exact absurd rfl hq
  | m2 =>
    obtain ⟨hp, hc, hlt⟩ := A.pc rfl
    have kc := hky _ i1
    have hge := A.ahead (by simp)
    obtain ⟨t1, t2⟩ := A.two rfl
    have mc : (S.nodes (i + 1)).mark = false := by rw [hmk _ i1]; rfl
    have mp : (S.nodes i).mark = false := by rw [hmk i (by omega)]; rfl
    have np : (S.nodes i).next = some (i + 1) := by rw [hnx i (by omega)]; exact node0_next hle
    have hcl : cleanB S i (i + 1) = true := by unfold cleanB; rw [mp, np]; simp
    by_cases h1 : kd = 1
    · left
      have hins : kd = 1 ∧ (S.algo = 4 ∨ cleanB S i (i + 1) = true) := ⟨h1, .inr hcl⟩
      refine ⟨by simp only [act, hs, hp, hc, Option.getD_some]; rw [if_pos hins], i, hle, hlt, hge, ?_⟩
      simp only [act, hs, hp, hc, Option.getD_some]; rw [if_pos hins]
      simp only [hands_setH]
      have := t2.1 h1
      simp [this, h1]
    · have h2 : kd = 2 := by omega
      have hq : (node0 start (i + 1)).key = k := by
        by_cases e : (node0 start (i + 1)).key = k
        · exact e
        · exact absurd (t2.2 e) h1
      have hins : ¬ (kd = 1 ∧ (S.algo = 4 ∨ cleanB S i (i + 1) = true)) := fun h => h1 h.1
      by_cases h4 : S.algo = 4
      · left
        have hn : kd = 2 ∧ S.algo = 4 := ⟨h2, h4⟩
        refine ⟨by simp only [act, hs, hp, hc, Option.getD_some]; rw [if_neg hins, if_pos hn], i, hle, hlt, hge, ?_⟩
        simp only [act, hs, hp, hc, Option.getD_some]; rw [if_neg hins, if_pos hn]
        simp only [hands_setH]
        simp [hq, h1]
      · have hn : ¬ (kd = 2 ∧ S.algo = 4) := fun h => h4 h.2
        obtain ⟨x, hx⟩ : ∃ x, x = { S.hands 0 with is := true, st := some .m3 } := ⟨_, rfl⟩
        have e : act S 0 kd k = ((S.markN (i + 1) true).setH 0 x, false) := by simp only [act, hs, hp, hc, Option.getD_some]; rw [if_neg hins, if_neg hn, if_pos ⟨h2, mc⟩, hx]; simp only [hp, hc]
        right
        rw [e]
        refine ⟨rfl, .m3, i, ⟨A.nh, by simp only [hands_setH]; rw [hx]; exact A.prog, by simp only [hands_setH]; rw [hx]; exact A.pos, by simp only [hands_setH]; rw [hx], by simp, fun _ => by simp only [hands_setH]; rw [hx]; exact ⟨hp, hc, hlt⟩, hle, fun j hj => by simp [hnx j hj], fun j hj => by simp [hky j hj], fun j hj => ?_, fun j hj => by simp [hlk j hj, soloHeld], fun _ => hge, fun _ => by simp only [hands_setH]; rw [hx]; exact ⟨rfl, hq, h2⟩, fun h => by simp at h, fun h => by simp at h⟩, by simp [soloW]⟩
        simp only [setH_nodes, markN_mark, hmk j hj, late]
        by_cases e0 : j = i + 1
        · simp [e0]
        · simp [e0]
  | m3 =>
    obtain ⟨hp, hc, hlt⟩ := A.pc rfl
    obtain ⟨s1, s2, s3⟩ := A.sure rfl
    left
    refine ⟨by simp only [act, hs], i, hle, hlt, A.ahead (by simp), ?_⟩
    simp only [act, hs, hp, hc, Option.getD_some]
    split
    · simp only [setN_hands]; rw [s1, s2, s3]; simp
    · rw [s1, s2, s3]; simp
end
end Go.Ha

namespace Go.Ha

section
variable {start : List Int} {kd k : Int}

def begun : Dn := ⟨0, 0, 0, -1, false⟩

/-- The deed is done. -/
structure Over (start : List Int) (kd k : Int) (S : Sys) (f : Nat) : Prop where
  nh : S.nh = 1
  none : hasDeed S 0 = false
  told : ∃ is j, S.told 0 = [⟨0, 0, 0, f, is⟩] ∧ j ≤ start.length ∧ (node0 start j).key < k ∧ k ≤ (node0 start (j + 1)).key ∧ is = (((node0 start (j + 1)).key == k) == (kd != 1))

theorem solo_post {B : Sys} {s : St} {i : Nat} (A : Solo start kd k B s i) (hkd : kd = 1 ∨ kd = 2 ∨ kd = 3) (hk : 0 ≤ k ∧ k ≤ 9) (ht : B.told 0 = [begun]) :
    Over start kd k (post B 0 kd k).tick B.now ∨ ∃ s' i', Solo start kd k (post B 0 kd k).tick s' i' ∧ soloW start.length s' i' < soloW start.length s i ∧ (post B 0 kd k).tick.told 0 = [begun] ∧ (post B 0 kd k).tick.now = B.now + 1 := by
  have hx := act_pos B 0 0 kd k
  rcases solo_act A hkd hk with ⟨hb, j, h1, h2, h3, h4⟩ | ⟨hb, s', i', h1, h2⟩
  · left
    have e : post B 0 kd k = endS (act B 0 kd k).1 0 := by unfold post; rw [if_pos hb]
    have hh : (endS (act B 0 kd k).1 0).hands 0 = { (act B 0 kd k).1.hands 0 with pos := ((act B 0 kd k).1.hands 0).pos + 1, st := none } := hands_setH _ _ _
    rw [e]
    refine ⟨?_, ?_, ((act B 0 kd k).1.hands 0).is, j, ?_, h1, h2, h3, h4⟩
    · show (act B 0 kd k).1.nh = 1; rw [act_nh]; exact A.nh
    · show (((endS (act B 0 kd k).1 0).hands 0).prog[((endS (act B 0 kd k).1 0).hands 0).pos]?).isSome = false
      rw [hh]; simp only; rw [hx.1, hx.2, A.prog, A.pos]; rfl
    · show (endS (act B 0 kd k).1 0).told 0 = _
      have : (endS (act B 0 kd k).1 0).told 0 = ((act B 0 kd k).1.told 0).modify ((act B 0 kd k).1.hands 0).pos fun d => { d with fin := (act B 0 kd k).1.now, is := ((act B 0 kd k).1.hands 0).is } := by simp [endS, Sys.setH, Sys.tell]
      rw [this, act_told, ht, hx.1, A.pos, act_now]; rfl
  · right
    have e : post B 0 kd k = (act B 0 kd k).1 := by unfold post; rw [if_neg (by rw [hb]; simp)]
    rw [e]
    refine ⟨s', i', ⟨h1.nh, h1.prog, h1.pos, h1.st, h1.not2, h1.pc, h1.le, h1.next, h1.key, h1.mark, h1.lock, h1.ahead, h1.sure, h1.nz, h1.two⟩, h2, ?_, ?_⟩
    · show (act B 0 kd k).1.told 0 = _; rw [act_told]; exact ht
    · show (act B 0 kd k).1.now + 1 = _; rw [act_now]

theorem sweep1 {S : Sys} (hnh : S.nh = 1) : sweepFrom S.nh S false 0 = if S.now < 4000 ∧ hasDeed S 0 = true then (S.step 0, true) else (S, false) := by
  rw [hnh, sweep_succ]; split <;> rfl

theorem rounds_over {S : Sys} (hnh : S.nh = 1) (h : hasDeed S 0 = false) (m : Nat) : rounds m S = S := by
  cases m with
  | zero => rfl
  | succ m =>
    show (if (sweepFrom S.nh S false 0).2 = true then rounds m (sweepFrom S.nh S false 0).1 else (sweepFrom S.nh S false 0).1) = S
    have hs := sweep1 hnh
    rw [if_neg (by rw [h]; simp)] at hs
    rw [hs]; rfl

theorem rounds_next {S : Sys} (hnh : S.nh = 1) (h : hasDeed S 0 = true) (hn : S.now < 4000) (m : Nat) : rounds (m + 1) S = rounds m (S.step 0) := by
  show (if (sweepFrom S.nh S false 0).2 = true then rounds m (sweepFrom S.nh S false 0).1 else (sweepFrom S.nh S false 0).1) = _
  have hs := sweep1 hnh
  rw [if_pos ⟨hn, h⟩] at hs
  rw [hs]; rfl

theorem solo_rounds (hkd : kd = 1 ∨ kd = 2 ∨ kd = 3) (hk : 0 ≤ k ∧ k ≤ 9) : ∀ (W m : Nat) (S : Sys) (s : St) (i : Nat), Solo start kd k S s i → soloW start.length s i ≤ W → W ≤ m → S.told 0 = [begun] → S.now + W ≤ 3000 →
    ∃ f, f < S.now + W ∧ Over start kd k (rounds m S) f := by
  intro W
  induction W with
  | zero => intro m S s i A hW; exfalso; cases s <;> simp [soloW] at hW
  | succ W ih =>
    intro m S s i A hW hm ht hn
    obtain ⟨m, rfl⟩ : ∃ m', m = m' + 1 := ⟨m - 1, by omega⟩
    have hp : (S.hands 0).prog[(S.hands 0).pos]? = some (kd, k) := by rw [A.prog, A.pos]; rfl
    have hd : hasDeed S 0 = true := by unfold hasDeed; rw [hp]; rfl
    have hb : beginS S 0 = S := by unfold beginS; rw [if_neg (by rw [A.st]; simp)]
    have e : S.step 0 = (post S 0 kd k).tick := by rw [step_eq hp, hb]
    rw [rounds_next A.nh hd (by omega), e]
    rcases solo_post A hkd hk ht with h | ⟨s', i', h1, h2, h3, h4⟩
    · exact ⟨S.now, by omega, by rw [rounds_over h.nh h.none]; exact h⟩
    · obtain ⟨f, g1, g2⟩ := ih m _ s' i' h1 (by omega) (by omega) h3 (by omega)
      exact ⟨f, by omega, g2⟩

/-- One alone: what is told, and when. -/
theorem solo_run {algo : Int} (hr : rightE algo start [[(kd, k)]] [] = 0) : ∃ (f : Nat) (is : Bool) (j : Nat), doneL (runS algo start [[(kd, k)]] []) = [⟨0, 0, 0, f, is⟩] ∧ f < 3 * start.length + 8 ∧ j ≤ start.length ∧ (node0 start j).key < k ∧ k ≤ (node0 start (j + 1)).key ∧ is = (((node0 start (j + 1)).key == k) == (kd != 1)) := by
  obtain ⟨ra, rl, ro, rp, rs⟩ := rightE_ok hr
  have hlen := start_len rs
  have hd0 := (rp [(kd, k)] List.mem_cons_self).2 (kd, k) List.mem_cons_self
  have hkd := hd0.kind
  have hk := hd0.key
  simp only at hkd hk
  obtain ⟨S0, hS0⟩ : ∃ S0, S0 = sys0 algo start [[(kd, k)]] := ⟨_, rfl⟩
  have hst : (S0.hands 0).st = none := by rw [hS0]; rfl
  have hp : (S0.hands 0).prog[(S0.hands 0).pos]? = some (kd, k) := by rw [hS0]; rfl
  have hd : hasDeed S0 0 = true := by unfold hasDeed; rw [hp]; rfl
  have hnh : S0.nh = 1 := by rw [hS0]; rfl
  have hnow : S0.now = 0 := by rw [hS0]; rfl
  have e0 : runS algo start [[(kd, k)]] [] = rounds 5000 S0 := by rw [hS0]; rfl
  have e1 : S0.step 0 = (post (beginS S0 0) 0 kd k).tick := step_eq hp
  have hb : beginS S0 0 = (S0.setH 0 { S0.hands 0 with st := some (St.start S0.algo), is := false }).tell 0 (S0.told 0 ++ [beginD S0 0]) := by unfold beginS; rw [if_pos hst]
  obtain ⟨B, hB⟩ : ∃ B, B = beginS S0 0 := ⟨_, rfl⟩
  have hbs : (St.start S0.algo).begins = true := start_begins _
  have hBh : B.hands 0 = { S0.hands 0 with st := some (St.start S0.algo), is := false } := by rw [hB, hb]; exact hands_setH S0 0 _
  have hBn : B.nodes = node0 start := by rw [hB, beginS_nodes, hS0]; rfl
  have hBt : B.told 0 = [begun] := by rw [hB, hb, hS0]; rfl
  have hBnow : B.now = 0 := by rw [hB, beginS_now, hnow]
  have nb : ∀ t, St.start S0.algo = t → t.begins = false → False := fun t e h => by rw [← e, hbs] at h; simp at h
  have A : Solo start kd k B (St.start S0.algo) 0 := by
    refine ⟨by rw [hB, beginS_nh]; exact hnh, by rw [hBh, hS0]; rfl, by rw [hBh, hS0]; rfl, by rw [hBh], fun e => nb _ e rfl, fun h => by rw [hbs] at h; simp at h, Nat.zero_le _, fun j _ => by rw [hBn], fun j _ => by rw [hBn], fun j _ => ?_, fun j _ => ?_, ?_, ?_, ?_, ?_⟩
    · rw [hBn, (node0_any start j).1]
      cases e : St.start S0.algo <;> first | exact (nb _ e rfl).elim | rfl
    · rw [hBn, (node0_any start j).2]
      cases e : St.start S0.algo <;> first | exact (nb _ e rfl).elim | simp [soloHeld]
    · rintro (e | e | e | e | e) <;> exact (nb _ e rfl).elim
    · intro h; cases e : St.start S0.algo <;> rw [e] at h <;> first | exact (nb _ e rfl).elim | simp [late] at h
    · rintro (e | e) <;> exact (nb _ e rfl).elim
    · intro e; exact (nb _ e rfl).elim
  have hW : soloW start.length (St.start S0.algo) 0 ≤ 3 * start.length + 8 := by
    unfold St.start; split
    · simp only [soloW]; omega
    · split <;> simp only [soloW] <;> omega
  have key : ∃ f, f < 3 * start.length + 8 ∧ Over start kd k (runS algo start [[(kd, k)]] []) f := by
    rw [e0, rounds_next hnh hd (by omega) 4999, e1, ← hB]
    rcases solo_post A hkd hk hBt with h | ⟨s', i', h1, h2, h3, h4⟩
    · exact ⟨B.now, by omega, by rw [rounds_over h.nh h.none]; exact h⟩
    · obtain ⟨f, g1, g2⟩ := solo_rounds hkd hk (3 * start.length + 7) 4999 _ s' i' h1 (by omega) (by omega) h3 (by omega)
      exact ⟨f, by omega, g2⟩
  obtain ⟨f, hf, hO⟩ := key
  obtain ⟨is, j, t1, t2, t3, t4, t5⟩ := hO.told
  refine ⟨f, is, j, ?_, hf, t2, t3, t4, t5⟩
  unfold doneL; rw [hO.nh]; show _ ++ [] = _; rw [t1]; rfl

/-- Was the key there? -/
theorem solo_has {start order : List Int} {algo : Int} {progs : List (List (Int × Int))} (hr : rightE algo start progs order = 0) {j : Nat} (h1 : j ≤ start.length) {k : Int} (hk : 0 ≤ k ∧ k ≤ 9) (h2 : (node0 start j).key < k) (h3 : k ≤ (node0 start (j + 1)).key) : k ∈ start ↔ (node0 start (j + 1)).key = k := by
  obtain ⟨ra, rl, ro, rp, rs⟩ := rightE_ok hr
  obtain ⟨s1, s2⟩ := ascB_get start none rs
  have mono : ∀ (d a : Nat) (x y : Int), start[a]? = some x → start[a + d]? = some y → x ≤ y := by
    intro d
    induction d with
    | zero => intro a x y h1 h2; rw [Nat.add_zero, h1] at h2; simp at h2; omega
    | succ d ih =>
      intro a x y h1 h2
      have hlt := (List.getElem?_eq_some_iff.1 h2).1
      have e : start[a + d]? = some (start[a + d]'(by omega)) := List.getElem?_eq_getElem (by omega)
      have := ih a x _ h1 e
      have := s2 (a + d) _ y e h2
      omega
  constructor
  · intro hm
    obtain ⟨a, ha⟩ := List.getElem?_of_mem hm
    have hal := (List.getElem?_eq_some_iff.1 ha).1
    -- a is behind j
    have hja : j ≤ a := by
      by_cases h : j ≤ a
      · exact h
      · exfalso
        have e : start[j - 1]? = some (start[j - 1]'(by omega)) := List.getElem?_eq_getElem (by omega)
        rw [node0_key (by omega) e] at h2
        have := mono (j - 1 - a) a k _ ha (by rw [show a + (j - 1 - a) = j - 1 by omega]; exact e)
        simp only at h2; omega
    by_cases hjl : j < start.length
    · have e : start[j]? = some (start[j]'hjl) := List.getElem?_eq_getElem hjl
      have e2 : (node0 start (j + 1)).key = start[j]'hjl := by rw [node0_key (by omega) (x := start[j]'hjl) (by rw [Nat.add_sub_cancel]; exact e)]
      have := mono (a - j) j _ k e (by rw [show j + (a - j) = a by omega]; exact ha)
      omega
    · omega
  · intro e
    by_cases hjl : j < start.length
    · have e1 : start[j]? = some (start[j]'hjl) := List.getElem?_eq_getElem hjl
      have e2 : (node0 start (j + 1)).key = start[j]'hjl := by rw [node0_key (by omega) (x := start[j]'hjl) (by rw [Nat.add_sub_cancel]; exact e1)]
      rw [← e, e2]; exact List.getElem_mem hjl
    · have : j = start.length := by omega
      subst this
      rw [node0_last] at e; simp only at e; omega
end
end Go.Ha

namespace Go.Ha
open Go.AM Go.Proofs.YtejokpfeepbfeaaAm

theorem between_ok (x lo hi : Int) (n : Nat) (h : Heap) : run (n + 1) 21 [.int .i64 x, .int .i64 lo, .int .i64 hi] h = some (.ret (.bool (inside x lo hi)) h) := by
  rw [run, callR_succ, eq21]
  by_cases h1 : lo ≤ x
  · simp [f21, h1, inside, clean, tup]
  · simp [f21, h1, inside, clean, tup]

/-- Ten answers as a row. -/
def barr (f : Nat → Bool) : List Value := (List.range 10).map fun i => .bool (f i)
theorem barr_len (f : Nat → Bool) : (barr f).length = 10 := by simp [barr]
theorem barr_get (f : Nat → Bool) {k : Nat} (hk : k < 10) : (barr f)[k]? = some (.bool (f k)) := by
  unfold barr; rw [List.getElem?_map, List.getElem?_range hk]; rfl
theorem barr_set (f : Nat → Bool) {k : Nat} (v : Bool) : (barr f).set k (.bool v) = barr (setF f k v) := by
  apply List.ext_getElem?
  intro i
  by_cases hi : i < 10
  · rw [barr_get _ hi]
    by_cases e : i = k
    · subst e; rw [List.getElem?_set_self (by rw [barr_len]; exact hi)]; simp
    · rw [List.getElem?_set_ne (Ne.symm e), barr_get _ hi, setF_ne _ _ e]
  · rw [List.getElem?_eq_none (by rw [List.length_set, barr_len]; omega), List.getElem?_eq_none (by rw [barr_len]; omega)]
theorem barr_st {h : Heap} {b : Nat} {f : Nat → Bool} (hb : h.bs[b]? = some (.cells (barr f) 0 false)) {k : Int} (hk : 0 ≤ k ∧ k ≤ 9) (v : Bool) :
    stR h (.pointer (some ⟨b, 0 + k.toNat * 1, none⟩)) (.bool v) = some (.ret undef (h.upd b (.cells (barr (setF f k.toNat v)) 0 false))) := by
  rw [stR_cells hb (by rw [barr_len]; omega) rfl, Nat.zero_add, Nat.mul_one, barr_set]

/-- The keys of a row. -/
def keysOf (l : List Int) (k : Nat) : Bool := l.any fun x => x == (k : Int)
theorem keysOf_iff {l : List Int} {k : Nat} : keysOf l k = true ↔ (k : Int) ∈ l := by
  unfold keysOf; rw [List.any_eq_true]
  constructor
  · rintro ⟨x, h, e⟩; have : x = (k : Int) := by simpa using e
    rw [← this]; exact h
  · intro h; exact ⟨_, h, by simp⟩

theorem barr_congr {f g : Nat → Bool} (h : ∀ k, k < 10 → f k = g k) : barr f = barr g := by
  unfold barr; apply List.map_congr_left; intro k hk; rw [h k (List.mem_range.1 hk)]

theorem barr_agg (f : Nat → Bool) {k : Int} (hk : 0 ≤ k ∧ k ≤ 9) : idxAgg false 10 1 (.agg (barr f).toArray) (.int .i64 k) = some (.bool (f k.toNat)) := by
  have h1 : inB k 10 = true := by simp [inB]; omega
  have h2 : (barr f)[k.toNat * 1]? = some (.bool (f k.toNat)) := by rw [Nat.mul_one]; exact barr_get f (by omega)
  simp only [idxAgg, h1, cond_true, partOf, h2, Option.bind_some, cellOk, cond_false]

section
variable {h : Heap} {v : Value} {l : List Int}

theorem keyset_ok (A : IntsAt (inpOf h) v l) (n : Nat) (hn : l.length < n + 1) (hl : l.length < 9223372036854775808) :
    ∃ h', run (n + 2) 11 [v] h = some (.ret (.agg (barr (keysOf l)).toArray) h') ∧ Below h.len h h' ∧ h.len ≤ h'.len := by
  obtain ⟨h1, d1⟩ : ∃ h1, h1 = h.push (.cells (barr fun _ => false) 0 false) := ⟨_, rfl⟩
  obtain ⟨h2, d2⟩ : ∃ h2, h2 = h1.push (.cells (barr fun _ => false) 0 false) := ⟨_, rfl⟩
  have l1 : h1.len = h.len + 1 := by rw [d1, push_len]
  have l2 : h2.len = h.len + 2 := by rw [d2, push_len, l1]
  have e1 : newR h [(.bool false), (.bool false), (.bool false), (.bool false), (.bool false), (.bool false), (.bool false), (.bool false), (.bool false), (.bool false)] = some (.ret (pt h.len) h1) := by rw [d1]; exact Eq.trans rfl rfl
  have e2 : newR h1 [(.bool false), (.bool false), (.bool false), (.bool false), (.bool false), (.bool false), (.bool false), (.bool false), (.bool false), (.bool false)] = some (.ret (pt h1.len) h2) := by rw [d2]; exact Eq.trans rfl rfl
  have c1 : h2.bs[h.len]? = some (.cells (barr fun _ => false) 0 false) := by rw [d2, d1]; exact push_old push_new
  have c2 : h2.bs[h1.len]? = some (.cells (barr fun _ => false) 0 false) := by rw [d2]; exact push_new
  have B2 : Below h.len h h2 := by rw [d2, d1]; exact (Below.push _ _).trans (.push _ _)
  rw [run, callR_succ, eq11]
  simp only [f11, bindR_ret, e1, e2, A.len]
  refine iterK_rule (σ := List Value) _ (fun k s g => ∃ (i : Nat), i + k = l.length ∧ s = [.int .i64 i] ∧ Below h.len h g ∧ g.len = h.len + 2 ∧ g.bs[h.len]? = some (.cells (barr fun _ => false) 0 false) ∧ g.bs[h1.len]? = some (.cells (barr (keysOf (l.take i))) 0 false))
    (fun r => ∃ h', r = some (.ret (.agg (barr (keysOf l)).toArray) h') ∧ Below h.len h h' ∧ h.len ≤ h'.len) ?_ (n + 1) l.length _ _ hn ⟨0, by omega, rfl, B2, l2, c1, by rw [show l.take 0 = [] from rfl]; exact c2⟩
  rintro k nx s g ⟨i, hi, rfl, B, lg, b1, b2⟩ ih
  simp only [List.headD_cons]
  by_cases hlt : i < l.length
  · have hx : l[i]? = some l[i] := List.getElem?_eq_getElem hlt
    obtain ⟨a, e3, e4⟩ := A.get (h := g) (fun x y e => B x y (lt_len e) e) hx
    have hc : decide ((i : Int) < (l.length : Nat)) = true := by simp; exact hlt
    have htk : l.take (i + 1) = l.take i ++ [l[i]] := by rw [List.take_add_one, hx]; rfl
    have ew := between_ok l[i] 0 9 n g
    simp only [run] at ew
    simp only [f11j2, intB_lss, hc, bindR_ret, pureR_some, ifR_true, f11j3, e3, e4, ew]
    cases hin : inside l[i] 0 9 with
    | true =>
      have hr : 0 ≤ l[i] ∧ l[i] ≤ 9 := by simpa [inside] using hin
      have ia := idxA_10 (b := h1.len) hr
      have st := barr_st b2 hr true
      simp only [ifR_true, ia, pureR_some, bindR_ret, st, f11j4, intB_inc' (n := i) (by omega)]
      refine ih (k - 1) _ _ (by omega) ⟨i + 1, by omega, rfl, ?_, by rw [upd_len]; exact lg, by rw [upd_ne (by omega)]; exact b1, ?_⟩
      · intro x y hxl e; rw [upd_ne (by omega)]; exact B x y hxl e
      · rw [upd_eq b2]
        have : barr (setF (keysOf (l.take i)) l[i].toNat true) = barr (keysOf (l.take (i + 1))) := barr_congr fun q hq => by
          rw [htk]; unfold keysOf setF
          rw [List.any_append]
          by_cases e : q = l[i].toNat
          · have : (l[i] == (q : Int)) = true := by simp; omega
            rw [if_pos e]; simp [this]
          · have : (l[i] == (q : Int)) = false := by simp; omega
            rw [if_neg e]; simp [this]
        rw [this]
    | false =>
      have hr : ¬ (0 ≤ l[i] ∧ l[i] ≤ 9) := by simpa [inside] using hin
      simp only [ifR_false, f11j4, bindR_ret, pureR_some, intB_inc' (n := i) (by omega)]
      refine ih (k - 1) _ _ (by omega) ⟨i + 1, by omega, rfl, B, lg, b1, ?_⟩
      rw [b2]
      have : barr (keysOf (l.take i)) = barr (keysOf (l.take (i + 1))) := barr_congr fun q hq => by
        rw [htk]; unfold keysOf
        rw [List.any_append]
        have : (l[i] == (q : Int)) = false := by simp; omega
        simp [this]
      rw [this]
  · have hc : decide ((i : Int) < (l.length : Nat)) = false := by simp; omega
    have ht : l.take i = l := List.take_of_length_le (by omega)
    rw [ht] at b2
    have hx : ∀ F : Nat → Bool, (barr F).toArray.size = 10 := fun F => by simp [barr]
    have e5 : ldNR g 10 (pt h1.len) = some (.ret (.agg (barr (keysOf l)).toArray) g) := by
      have c : cut (barr (keysOf l)) 0 10 = some (barr (keysOf l)) := Eq.trans rfl rfl
      simp only [ldNR, ldN, pt, Heap.row, b2, Option.bind_some, c, Option.map_some, pureR]
    have e6 : stNR g 10 (pt h.len) (.agg (barr (keysOf l)).toArray) = some (.ret undef (g.upd h.len (.cells (barr (keysOf l)) 0 false))) := by
      have s0 : Nat.beq (barr (keysOf l)).toArray.size 10 = true := rfl
      have s1 : (Nat.ble (0 + (barr (keysOf l)).length) (barr fun _ => false).length && cellsOk (barr (keysOf l))) = true := rfl
      have s2 : setL (barr fun _ => false) 0 (barr (keysOf l)) = barr (keysOf l) := rfl
      simp only [stNR, s0, cond_true, stL, pt, b1, List.toList_toArray, s1, Option.bind_some, s2]
    have e7 : ldN (g.upd h.len (.cells (barr (keysOf l)) 0 false)) 10 (pt h.len) = some (barr (keysOf l)) := by
      have c : cut (barr (keysOf l)) 0 10 = some (barr (keysOf l)) := Eq.trans rfl rfl
      simp only [ldN, pt, Heap.row, upd_eq b1, Option.bind_some, c]
    refine ⟨g.upd h.len (.cells (barr (keysOf l)) 0 false), ?_, ?_, by rw [upd_len]; omega⟩
    · simp only [f11j2, intB_lss, hc, bindR_ret, pureR_some, ifR_false, cond_beq, f11j1, e5, e6, e7, Option.map_some, Option.bind_some, tup]
    · intro x y hxl e; rw [upd_ne (by omega)]; exact B x y hxl e
end
end Go.Ha

namespace Go.Ha
open Go.AM Go.WideShapes Go.ChangeShapes

section
variable {H : Type} {enc : TypeId × Value → H} {P : Program} {w : World} {base : Nat} {held : Bool}

structure Handed1 (w : World) (v1 : Value) where
  h : Heap
  μ : Pl
  a1 : Value
  start : List Int
  hr : HR μ h w
  ro : allRo h.bs = true
  r1 : VR μ h.len a1 v1
  A1 : IntsAt (inpOf h) a1 start
  len : start.length ≤ maxLen

theorem handed1 {ints num : TypeId} (hi : P.underlying ints = some (.slice num)) (hn : P.underlying num = some (.int .i64)) (hc : P.cellsOf num = 1) {f1 : Nat} {v1 : Value} {d1 : DataW H × List MemPlace}
    (h1 : DataW.trod enc P w base (fun _ => true) held f1 ints [v1] = some d1) : Nonempty (Handed1 w v1) := by
  obtain ⟨start, L1, len1, s1, i1⟩ := stand_ints hi hn hc h1 0
  have own : ∀ (b : Nat) (y : Blk), (Heap.mk [L1.y]).bs[b]? = some y → b = 0 ∧ y = L1.y := by
    intro b y hy
    match b, hy with
    | 0, hy => simp at hy; exact ⟨rfl, hy.symm⟩
  have b0 : (Heap.mk [L1.y]).bs[0]? = some L1.y := rfl
  refine ⟨⟨⟨[L1.y]⟩, fun _ => L1.p, L1.v, start, ⟨fun b y hy => ?_, fun a b x y hx _ ho _ => ?_⟩, ?_, s1.vr _ _ rfl (by simp [Heap.len]), i1 _ b0, len1⟩⟩
  · obtain ⟨rfl, rfl⟩ := own b y hy; exact s1.blk _ _
  · obtain ⟨rfl, rfl⟩ := own a x hx; rw [s1.own] at ho; simp at ho
  · unfold allRo
    rw [List.all_eq_true]
    intro y hy
    obtain ⟨b, hb⟩ := List.getElem?_of_mem hy
    obtain ⟨rfl, rfl⟩ := own b y hb
    rcases s1.ro with e | ⟨c, e⟩ <;> rw [e]
end
end Go.Ha

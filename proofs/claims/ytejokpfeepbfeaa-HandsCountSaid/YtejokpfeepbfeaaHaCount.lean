/-
  Hands: the law HandsCount returns true.
-/
import Derived.Test.YtejokpfeepbfeaaHaF
set_option linter.unusedSimpArgs false
set_option linter.unusedVariables false
set_option linter.unnecessarySimpa false
namespace Go.Ha
open Go.AM Go.Proofs.YtejokpfeepbfeaaAm

theorem doneS_who {algo : Int} {start order : List Int} {progs : List (List (Int × Int))} (W : Whole algo start progs order) : ∀ d ∈ doneL (runS algo start progs order), d.who < progs.length ∧ d.deed < (progs.getD d.who []).length ∧ ∃ f : Nat, d.fin = f ∧ d.beg ≤ f := by
  intro d hd
  unfold doneL at hd
  rw [W.nh] at hd
  obtain ⟨j, _, hj, hm⟩ := (mem_done _ _).1 hd
  obtain ⟨i, hi⟩ := List.getElem?_of_mem hm
  have hj' : j < progs.length := by omega
  obtain ⟨w1, w2, w3⟩ := W.who j hj' i d hi
  have := (List.getElem?_eq_some_iff.1 hi).1
  rw [W.len j hj'] at this
  exact ⟨by omega, by rw [w1, w2]; exact this, w3⟩

theorem put2 (h : Heap) (a b : Int) : newR h [(.int .i64 0), (.int .i64 0)] = some (.ret (pt h.len) (h.push (.cells [.int .i64 0, .int .i64 0] 0 false))) ∧
    stNR (h.push (.cells [.int .i64 0, .int .i64 0] 0 false)) 2 (pt h.len) (.agg #[.int .i64 a, .int .i64 b]) = some (.ret undef (h.push (.cells [.int .i64 a, .int .i64 b] 0 false))) := ⟨new2 h, st2 a b⟩

section
variable {inp : Inp}

/-- The loop over what was done. -/
theorem tally2 {h0 : Heap} (I0 : InpOk inp h0) {v2 w1 : Value} {progs : List (List (Int × Int))} (A : RowsAt inp v2 progs) {done : List Dn} (hd : ∀ d ∈ done, d.who < progs.length ∧ d.deed < (progs.getD d.who []).length ∧ 0 ≤ (kkOf progs d).2 ∧ (kkOf progs d).2 ≤ 9)
    (hl : done.length ≤ 100) {b t : Nat} (hbl : h0.len ≤ b) (htl : t < h0.len) (D : DonesAt h0 w1 done) {w2 : Value} (ht : h0.bs[t]? = some (.cells [w1, w2] 0 false)) {f0 : Nat → Int} (hf0 : small f0 100)
    {hb : Heap} (B0 : Below h0.len h0 hb) (hlb : b < hb.len) (hlb2 : h0.len ≤ hb.len) (hb0 : hb.bs[b]? = some (.cells (arr f0) 0 false)) (cr : FuncId → List Value → Heap → Res) (m : Nat) (hm : done.length < m) (Q : Res → Prop)
    (cont : ∀ h, Below h0.len h0 h → h0.len ≤ h.len → b < h.len → h.bs[b]? = some (.cells (arr (done.foldl (tell1 (kkOf progs)) f0)) 0 false) → Q (f4j3 cr m (pt t) (pt b) h)) :
    Q (f4j2 cr m v2 (pt t) (pt b) hb) := by
  have lt : ∀ {h : Heap}, Below h0.len h0 h → ldR h (.pointer (some ⟨t, 0, none⟩)) = some (.ret w1 h) := fun B => ldR_cells (B t _ htl ht) rfl
  have ext : ∀ {h : Heap}, Below h0.len h0 h → DonesAt h w1 done := fun B => D.ext fun b y e => B b y (lt_len e) e
  simp only [f4j2, bindR_ret, padd_q, pureR_some, Nat.zero_add, lt B0, (ext B0).len]
  refine iterK_rule (σ := List Value) _ (fun k s h => ∃ (i : Nat) (f : Nat → Int), i + k = done.length ∧ s = [.int .i64 i] ∧ Below h0.len h0 h ∧ h0.len ≤ h.len ∧ b < h.len ∧ h.bs[b]? = some (.cells (arr f) 0 false) ∧ small f (100 + i) ∧ (done.drop i).foldl (tell1 (kkOf progs)) f = done.foldl (tell1 (kkOf progs)) f0)
    Q ?_ m done.length _ _ hm ⟨0, f0, by omega, rfl, B0, hlb2, hlb, hb0, hf0, rfl⟩
  rintro k nx s h ⟨i, f, hi, rfl, B, hle, hbl', hbb, hsm, hf⟩ ih
  simp only [List.headD_cons]
  by_cases hlt : i < done.length
  · have hx : done[i]? = some done[i] := List.getElem?_eq_getElem hlt
    obtain ⟨x, e1, e2, _, _⟩ := (ext B).get hx
    obtain ⟨h1, d1⟩ : ∃ h1, h1 = h.push (.cells (dnC done[i]) 0 false) := ⟨_, rfl⟩
    obtain ⟨p1, p2⟩ := put5 h done[i]
    rw [← d1] at p2
    have c1 : h1.bs[h.len]? = some (.cells (dnC done[i]) 0 false) := by rw [d1]; exact push_new
    have B1 : Below h0.len h0 h1 := by rw [d1]; exact B.trans (.push _ _)
    have l1 : h1.len = h.len + 1 := by rw [d1, push_len]
    obtain ⟨q1, q2, q3, q4⟩ := hd _ (List.getElem_mem hlt)
    have r0 : ldR h1 (.pointer (some ⟨h.len, 0, none⟩)) = some (.ret (.int .i64 done[i].who) h1) := ldR_cells c1 rfl
    have r1 : ldR h1 (.pointer (some ⟨h.len, 1, none⟩)) = some (.ret (.int .i64 done[i].deed) h1) := ldR_cells c1 rfl
    have I1 := I0.below B1
    have hy : progs[done[i].who]? = some (progs.getD done[i].who []) := by simp [q1]
    obtain ⟨a2, w, e3, e4, e5⟩ := A.get I1 hy
    have hz : (progs.getD done[i].who [])[done[i].deed]? = some (kkOf progs done[i]) := by
      unfold kkOf
      generalize progs.getD done[i].who [] = l at q2 ⊢
      simp [q2]
    obtain ⟨a3, e6, e7⟩ := e5.get I1 hz
    obtain ⟨h2, d2⟩ : ∃ h2, h2 = h1.push (.cells [.int .i64 (kkOf progs done[i]).1, .int .i64 (kkOf progs done[i]).2] 0 false) := ⟨_, rfl⟩
    obtain ⟨p3, p4⟩ := put2 h1 (kkOf progs done[i]).1 (kkOf progs done[i]).2
    rw [← d2] at p4
    have c2 : h2.bs[h1.len]? = some (.cells [.int .i64 (kkOf progs done[i]).1, .int .i64 (kkOf progs done[i]).2] 0 false) := by rw [d2]; exact push_new
    have c1' : h2.bs[h.len]? = some (.cells (dnC done[i]) 0 false) := by rw [d2]; exact push_old c1
    have B2 : Below h0.len h0 h2 := by rw [d2]; exact B1.trans (.push _ _)
    have l2 : h2.len = h.len + 2 := by rw [d2, push_len, l1]
    have bb2 : h2.bs[b]? = some (.cells (arr f) 0 false) := by rw [d2, d1]; exact push_old (push_old hbb)
    have hc : decide ((i : Int) < (done.length : Nat)) = true := by simp; exact hlt
    rw [List.drop_eq_getElem_cons hlt] at hf
    have hf : (done.drop (i + 1)).foldl (tell1 (kkOf progs)) (tell1 (kkOf progs) f done[i]) = done.foldl (tell1 (kkOf progs)) f0 := hf
    have rIs : ∀ {g : Heap}, g.bs[h.len]? = some (.cells (dnC done[i]) 0 false) → ldR g (.pointer (some ⟨h.len, 4, none⟩)) = some (.ret (.bool done[i].is) g) := fun e => ldR_cells e rfl
    have rK : ∀ {g : Heap}, g.bs[h1.len]? = some (.cells [.int .i64 (kkOf progs done[i]).1, .int .i64 (kkOf progs done[i]).2] 0 false) → ldR g (.pointer (some ⟨h1.len, 0, none⟩)) = some (.ret (.int .i64 (kkOf progs done[i]).1) g) := fun e => ldR_cells e rfl
    have rY : ∀ {g : Heap}, g.bs[h1.len]? = some (.cells [.int .i64 (kkOf progs done[i]).1, .int .i64 (kkOf progs done[i]).2] 0 false) → ldR g (.pointer (some ⟨h1.len, 1, none⟩)) = some (.ret (.int .i64 (kkOf progs done[i]).2) g) := fun e => ldR_cells e rfl
    have hr := And.intro q3 q4
    have hsb := hsm (kkOf progs done[i]).2.toNat
    have next : ∀ g : Heap, Below h0.len h0 g → h0.len ≤ g.len → b < g.len → g.bs[b]? = some (.cells (arr (tell1 (kkOf progs) f done[i])) 0 false) →
        Q (f4j11 cr m nx v2 (pt t) (pt b) w1 (.int .i64 (done.length : Nat)) (.int .i64 i) g) := by
      intro g g1 g2 g3 g4
      simp only [f4j11, bindR_ret, pureR_some, intB_inc' (n := i) (by omega)]
      exact ih (k - 1) _ _ (by omega) ⟨i + 1, _, by omega, rfl, g1, g2, g3, g4, small_tell hsm _, hf⟩
    simp only [pt] at p1 p2 p3 p4
    have gsk : ∀ w r h, gd w skipV r h = some (.ret skipV h) := fun w r h => gd_skip w r h
    simp only [f4j9, intB_lss, hc, bindR_ret, pureR_some, ifR_true, f4j10, e1, e2, p1, p2, noPan_ret, Bool.and_true, guardR_true, padd_q, Nat.zero_add, r0, e3, e4, r1, e6, e7, p3, p4, rIs c1']
    have upB : ∀ v, Below h0.len h0 (h2.upd b v) := fun v x y hxl e => by rw [upd_ne (by omega)]; exact B2 x y hxl e
    cases his : done[i].is with
    | false =>
      have ht1 : tell1 (kkOf progs) f done[i] = f := by unfold tell1; rw [if_neg (by rw [his]; simp), if_neg (by rw [his]; simp)]
      rw [his] at rIs
      simp only [gd_tf, bindR_ret, gsk, pickV_f, pureR_some, ifR_false, f4j12, padd_q, rIs c1']
      exact next h2 B2 (by omega) (by omega) (by rw [ht1]; exact bb2)
    | true =>
      rw [his] at rIs
      simp only [gd_tt, bindR_ret, pureR_some, padd_q, Nat.zero_add, rK c2, intB_eql, pickV_t]
      cases hk1 : ((kkOf progs done[i]).1 == 1) with
      | true =>
        have hk1' : (kkOf progs done[i]).1 = 1 := by simpa using hk1
        have ht1 : tell1 (kkOf progs) f done[i] = inc f (kkOf progs done[i]).2 := by unfold tell1; rw [if_pos ⟨his, hk1'⟩]
        have bc1 : (h2.upd b (.cells (arr (inc f (kkOf progs done[i]).2)) 0 false)).bs[h.len]? = some (.cells (dnC done[i]) 0 false) := by rw [upd_ne (by omega)]; exact c1'
        have bc2 : (h2.upd b (.cells (arr (inc f (kkOf progs done[i]).2)) 0 false)).bs[h1.len]? = some (.cells [.int .i64 (kkOf progs done[i]).1, .int .i64 (kkOf progs done[i]).2] 0 false) := by rw [upd_ne (by omega)]; exact c2
        have hk2 : ((kkOf progs done[i]).1 == 2) = false := by rw [hk1']; rfl
        have st := arr_st bb2 hr (f (kkOf progs done[i]).2.toNat + 1)
        have e8 := rIs bc1
        have e9 := rK bc2
        have ia := idxA_10 (b := b) hr
        have al := arr_ld bb2 hr
        simp only [pt] at ia
        simp only [ifR_true, bindR_ret, pureR_some, padd_q, Nat.zero_add, rY c2]
        simp only [pt, ia, bindR_ret, pureR_some, al, int_add1 (x := f (kkOf progs done[i]).2.toNat) (by omega), st]
        show Q (f4j12 cr m nx v2 _ _ _ _ _ _ _ (h2.upd b (.cells (arr (inc f (kkOf progs done[i]).2)) 0 false)))
        simp only [f4j12, padd_q, pureR_some, bindR_ret, Nat.zero_add, e8, gd_tt, e9, intB_eql, hk2, pickV_t, ifR_false]
        exact next _ (upB _) (by rw [upd_len]; omega) (by rw [upd_len]; omega) (by rw [ht1]; exact upd_eq bb2)
      | false =>
        simp only [ifR_false, f4j12, padd_q, pureR_some, bindR_ret, Nat.zero_add, rIs c1', gd_tt, rK c2, intB_eql, pickV_t]
        have hk1' : (kkOf progs done[i]).1 ≠ 1 := by simpa using hk1
        cases hk2 : ((kkOf progs done[i]).1 == 2) with
        | true =>
          have hk2' : (kkOf progs done[i]).1 = 2 := by simpa using hk2
          have ht1 : tell1 (kkOf progs) f done[i] = dec' f (kkOf progs done[i]).2 := by unfold tell1; rw [if_neg (fun h => hk1' h.2), if_pos ⟨his, hk2'⟩]
          have st := arr_st bb2 hr (f (kkOf progs done[i]).2.toNat - 1)
          have ia := idxA_10 (b := b) hr
          have al := arr_ld bb2 hr
          simp only [pt] at ia
          simp only [ifR_true, bindR_ret, pureR_some, padd_q, Nat.zero_add, rY c2]
          simp only [pt, ia, bindR_ret, pureR_some, al, int_sub1 (x := f (kkOf progs done[i]).2.toNat) (by omega), st]
          exact next _ (upB _) (by rw [upd_len]; omega) (by rw [upd_len]; omega) (by rw [ht1]; exact upd_eq bb2)
        | false =>
          have hk2' : (kkOf progs done[i]).1 ≠ 2 := by simpa using hk2
          have ht1 : tell1 (kkOf progs) f done[i] = f := by unfold tell1; rw [if_neg (fun h => hk1' h.2), if_neg (fun h => hk2' h.2)]
          simp only [ifR_false]
          exact next h2 B2 (by omega) (by omega) (by rw [ht1]; exact bb2)
  · have hd : done.drop i = [] := List.drop_eq_nil_of_le (by omega)
    have hc : decide ((i : Int) < (done.length : Nat)) = false := by simp; omega
    rw [hd] at hf
    have hf : f = done.foldl (tell1 (kkOf progs)) f0 := hf
    simp only [f4j9, intB_lss, hc, bindR_ret, pureR_some, ifR_false, cond_beq]
    exact cont h B hle hbl' (by rw [← hf]; exact hbb)
end
end Go.Ha

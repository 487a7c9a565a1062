/-
  Hands: the law HandsCount returns true.
  Hands: the law HandsCount returns true: the whole.
  Hands: of two that mark, the one that alone has the last 200 steps ends within them.
  Hands: the reference's word on whether what is handed in is right: the same as Run's.
  Hands: the law HandsFree: the row of all steps.
  Hands: the law HandsFree returns true.
-/
import Derived.Test.YtejokpfeepbfeaaHaF
import Derived.Test.YtejokpfeepbfeaaHaE
import Derived.Test.YtejokpfeepbfeaaHaG
set_option linter.unusedSimpArgs false
set_option linter.unusedVariables false
set_option linter.unnecessarySimpa false
namespace Go.Ha
open Go.AM Go.Proofs.YtejokpfeepbfeaaAm

theorem doneS_who {algo : Int} {start order : List Int} {progs : List (List (Int × Int))} (W : Whole algo start progs order) : ∀ d ∈ doneL (runS algo start progs order), d.who < progs.length ∧ d.deed < (progs.getD d.who []).length ∧ ∃ f : Nat, d.fin = f ∧ d.beg ≤ f := by
  intro d hd
  unfold doneL at hd
  rw [W.nh] at hd
  obtain ⟨j, _, hj, hm⟩ := (mem_done _ _).1 hd
  obtain ⟨i, hi⟩ := List.getElem?_of_mem hm
  have hj' : j < progs.length := by omega
  obtain ⟨w1, w2, w3⟩ := W.who j hj' i d hi
  have := (List.getElem?_eq_some_iff.1 hi).1
  rw [W.len j hj'] at this
  exact ⟨by omega, by rw [w1, w2]; exact this, w3⟩

theorem put2 (h : Heap) (a b : Int) : newR h [(.int .i64 0), (.int .i64 0)] = some (.ret (pt h.len) (h.push (.cells [.int .i64 0, .int .i64 0] 0 false))) ∧
    stNR (h.push (.cells [.int .i64 0, .int .i64 0] 0 false)) 2 (pt h.len) (.agg #[.int .i64 a, .int .i64 b]) = some (.ret undef (h.push (.cells [.int .i64 a, .int .i64 b] 0 false))) := ⟨new2 h, st2 a b⟩

section
variable {inp : Inp}

/-- The loop over what was done. -/
theorem tally2 {h0 : Heap} (I0 : InpOk inp h0) {v2 w1 : Value} {progs : List (List (Int × Int))} (A : RowsAt inp v2 progs) {done : List Dn} (hd : ∀ d ∈ done, d.who < progs.length ∧ d.deed < (progs.getD d.who []).length ∧ 0 ≤ (kkOf progs d).2 ∧ (kkOf progs d).2 ≤ 9)
    (hl : done.length ≤ 100) {b t : Nat} (hbl : h0.len ≤ b) (htl : t < h0.len) (D : DonesAt h0 w1 done) {w2 : Value} (ht : h0.bs[t]? = some (.cells [w1, w2] 0 false)) {f0 : Nat → Int} (hf0 : small f0 100)
    {hb : Heap} (B0 : Below h0.len h0 hb) (hlb : b < hb.len) (hlb2 : h0.len ≤ hb.len) (hb0 : hb.bs[b]? = some (.cells (arr f0) 0 false)) (cr : FuncId → List Value → Heap → Res) (m : Nat) (hm : done.length < m) (Q : Res → Prop)
    (cont : ∀ h, Below h0.len h0 h → h0.len ≤ h.len → b < h.len → h.bs[b]? = some (.cells (arr (done.foldl (tell1 (kkOf progs)) f0)) 0 false) → Q (f4j3 cr m (pt t) (pt b) h)) :
    Q (f4j2 cr m v2 (pt t) (pt b) hb) := by
  have lt : ∀ {h : Heap}, Below h0.len h0 h → ldR h (.pointer (some ⟨t, 0, none⟩)) = some (.ret w1 h) := fun B => ldR_cells (B t _ htl ht) rfl
  have ext : ∀ {h : Heap}, Below h0.len h0 h → DonesAt h w1 done := fun B => D.ext fun b y e => B b y (lt_len e) e
  simp only [f4j2, bindR_ret, padd_q, pureR_some, Nat.zero_add, lt B0, (ext B0).len]
  refine iterK_rule (σ := List Value) _ (fun k s h => ∃ (i : Nat) (f : Nat → Int), i + k = done.length ∧ s = [.int .i64 i] ∧ Below h0.len h0 h ∧ h0.len ≤ h.len ∧ b < h.len ∧ h.bs[b]? = some (.cells (arr f) 0 false) ∧ small f (100 + i) ∧ (done.drop i).foldl (tell1 (kkOf progs)) f = done.foldl (tell1 (kkOf progs)) f0)
    Q ?_ m done.length _ _ hm ⟨0, f0, by omega, rfl, B0, hlb2, hlb, hb0, hf0, rfl⟩
  rintro k nx s h ⟨i, f, hi, rfl, B, hle, hbl', hbb, hsm, hf⟩ ih
  simp only [List.headD_cons]
  by_cases hlt : i < done.length
  · have hx : done[i]? = some done[i] := List.getElem?_eq_getElem hlt
    obtain ⟨x, e1, e2, _, _⟩ := (ext B).get hx
    obtain ⟨h1, d1⟩ : ∃ h1, h1 = h.push (.cells (dnC done[i]) 0 false) := ⟨_, rfl⟩
    obtain ⟨p1, p2⟩ := put5 h done[i]
    rw [← d1] at p2
    have c1 : h1.bs[h.len]? = some (.cells (dnC done[i]) 0 false) := by rw [d1]; exact push_new
    have B1 : Below h0.len h0 h1 := by rw [d1]; exact B.trans (.push _ _)
    have l1 : h1.len = h.len + 1 := by rw [d1, push_len]
    obtain ⟨q1, q2, q3, q4⟩ := hd _ (List.getElem_mem hlt)
    have r0 : ldR h1 (.pointer (some ⟨h.len, 0, none⟩)) = some (.ret (.int .i64 done[i].who) h1) := ldR_cells c1 rfl
    have r1 : ldR h1 (.pointer (some ⟨h.len, 1, none⟩)) = some (.ret (.int .i64 done[i].deed) h1) := ldR_cells c1 rfl
    have I1 := I0.below B1
    have hy : progs[done[i].who]? = some (progs.getD done[i].who []) := by simp [q1]
    obtain ⟨a2, w, e3, e4, e5⟩ := A.get I1 hy
    have hz : (progs.getD done[i].who [])[done[i].deed]? = some (kkOf progs done[i]) := by
      unfold kkOf
      generalize progs.getD done[i].who [] = l at q2 ⊢
      simp [q2]
    obtain ⟨a3, e6, e7⟩ := e5.get I1 hz
    obtain ⟨h2, d2⟩ : ∃ h2, h2 = h1.push (.cells [.int .i64 (kkOf progs done[i]).1, .int .i64 (kkOf progs done[i]).2] 0 false) := ⟨_, rfl⟩
    obtain ⟨p3, p4⟩ := put2 h1 (kkOf progs done[i]).1 (kkOf progs done[i]).2
    rw [← d2] at p4
    have c2 : h2.bs[h1.len]? = some (.cells [.int .i64 (kkOf progs done[i]).1, .int .i64 (kkOf progs done[i]).2] 0 false) := by rw [d2]; exact push_new
    have c1' : h2.bs[h.len]? = some (.cells (dnC done[i]) 0 false) := by rw [d2]; exact push_old c1
    have B2 : Below h0.len h0 h2 := by rw [d2]; exact B1.trans (.push _ _)
    have l2 : h2.len = h.len + 2 := by rw [d2, push_len, l1]
    have bb2 : h2.bs[b]? = some (.cells (arr f) 0 false) := by rw [d2, d1]; exact push_old (push_old hbb)
    have hc : decide ((i : Int) < (done.length : Nat)) = true := by simp; exact hlt
    rw [List.drop_eq_getElem_cons hlt] at hf
    have hf : (done.drop (i + 1)).foldl (tell1 (kkOf progs)) (tell1 (kkOf progs) f done[i]) = done.foldl (tell1 (kkOf progs)) f0 := hf
    have rIs : ∀ {g : Heap}, g.bs[h.len]? = some (.cells (dnC done[i]) 0 false) → ldR g (.pointer (some ⟨h.len, 4, none⟩)) = some (.ret (.bool done[i].is) g) := fun e => ldR_cells e rfl
    have rK : ∀ {g : Heap}, g.bs[h1.len]? = some (.cells [.int .i64 (kkOf progs done[i]).1, .int .i64 (kkOf progs done[i]).2] 0 false) → ldR g (.pointer (some ⟨h1.len, 0, none⟩)) = some (.ret (.int .i64 (kkOf progs done[i]).1) g) := fun e => ldR_cells e rfl
    have rY : ∀ {g : Heap}, g.bs[h1.len]? = some (.cells [.int .i64 (kkOf progs done[i]).1, .int .i64 (kkOf progs done[i]).2] 0 false) → ldR g (.pointer (some ⟨h1.len, 1, none⟩)) = some (.ret (.int .i64 (kkOf progs done[i]).2) g) := fun e => ldR_cells e rfl
    have hr := And.intro q3 q4
    have hsb := hsm (kkOf progs done[i]).2.toNat
    have next : ∀ g : Heap, Below h0.len h0 g → h0.len ≤ g.len → b < g.len → g.bs[b]? = some (.cells (arr (tell1 (kkOf progs) f done[i])) 0 false) →
        Q (f4j11 cr m nx v2 (pt t) (pt b) w1 (.int .i64 (done.length : Nat)) (.int .i64 i) g) := by
      intro g g1 g2 g3 g4
      simp only [f4j11, bindR_ret, pureR_some, intB_inc' (n := i) (by omega)]
      exact ih (k - 1) _ _ (by omega) ⟨i + 1, _, by omega, rfl, g1, g2, g3, g4, small_tell hsm _, hf⟩
    simp only [pt] at p1 p2 p3 p4
    have gsk : ∀ w r h, gd w skipV r h = some (.ret skipV h) := fun w r h => gd_skip w r h
    simp only [f4j9, intB_lss, hc, bindR_ret, pureR_some, ifR_true, f4j10, e1, e2, p1, p2, noPan_ret, Bool.and_true, guardR_true, padd_q, Nat.zero_add, r0, e3, e4, r1, e6, e7, p3, p4, rIs c1']
    have upB : ∀ v, Below h0.len h0 (h2.upd b v) := fun v x y hxl e => by rw [upd_ne (by omega)]; exact B2 x y hxl e
    cases his : done[i].is with
    | false =>
      have ht1 : tell1 (kkOf progs) f done[i] = f := by unfold tell1; rw [if_neg (by rw [his]; simp), if_neg (by rw [his]; simp)]
      rw [his] at rIs
      simp only [gd_tf, bindR_ret, gsk, pickV_f, pureR_some, ifR_false, f4j12, padd_q, rIs c1']
      exact next h2 B2 (by omega) (by omega) (by rw [ht1]; exact bb2)
    | true =>
      rw [his] at rIs
      simp only [gd_tt, bindR_ret, pureR_some, padd_q, Nat.zero_add, rK c2, intB_eql, pickV_t]
      cases hk1 : ((kkOf progs done[i]).1 == 1) with
      | true =>
        have hk1' : (kkOf progs done[i]).1 = 1 := by simpa using hk1
        have ht1 : tell1 (kkOf progs) f done[i] = inc f (kkOf progs done[i]).2 := by unfold tell1; rw [if_pos ⟨his, hk1'⟩]
        have bc1 : (h2.upd b (.cells (arr (inc f (kkOf progs done[i]).2)) 0 false)).bs[h.len]? = some (.cells (dnC done[i]) 0 false) := by rw [upd_ne (by omega)]; exact c1'
        have bc2 : (h2.upd b (.cells (arr (inc f (kkOf progs done[i]).2)) 0 false)).bs[h1.len]? = some (.cells [.int .i64 (kkOf progs done[i]).1, .int .i64 (kkOf progs done[i]).2] 0 false) := by rw [upd_ne (by omega)]; exact c2
        have hk2 : ((kkOf progs done[i]).1 == 2) = false := by rw [hk1']; rfl
        have st := arr_st bb2 hr (f (kkOf progs done[i]).2.toNat + 1)
        have e8 := rIs bc1
        have e9 := rK bc2
        have ia := idxA_10 (b := b) hr
        have al := arr_ld bb2 hr
        simp only [pt] at ia
        simp only [ifR_true, bindR_ret, pureR_some, padd_q, Nat.zero_add, rY c2]
        simp only [pt, ia, bindR_ret, pureR_some, al, int_add1 (x := f (kkOf progs done[i]).2.toNat) (by omega), st]
        show Q (f4j12 cr m nx v2 _ _ _ _ _ _ _ (h2.upd b (.cells (arr (inc f (kkOf progs done[i]).2)) 0 false)))
        simp only [f4j12, padd_q, pureR_some, bindR_ret, Nat.zero_add, e8, gd_tt, e9, intB_eql, hk2, pickV_t, ifR_false]
        exact next _ (upB _) (by rw [upd_len]; omega) (by rw [upd_len]; omega) (by rw [ht1]; exact upd_eq bb2)
      | false =>
        simp only [ifR_false, f4j12, padd_q, pureR_some, bindR_ret, Nat.zero_add, rIs c1', gd_tt, rK c2, intB_eql, pickV_t]
        have hk1' : (kkOf progs done[i]).1 ≠ 1 := by simpa using hk1
        cases hk2 : ((kkOf progs done[i]).1 == 2) with
        | true =>
          have hk2' : (kkOf progs done[i]).1 = 2 := by simpa using hk2
          have ht1 : tell1 (kkOf progs) f done[i] = dec' f (kkOf progs done[i]).2 := by unfold tell1; rw [if_neg (fun h => hk1' h.2), if_pos ⟨his, hk2'⟩]
          have st := arr_st bb2 hr (f (kkOf progs done[i]).2.toNat - 1)
          have ia := idxA_10 (b := b) hr
          have al := arr_ld bb2 hr
          simp only [pt] at ia
          simp only [ifR_true, bindR_ret, pureR_some, padd_q, Nat.zero_add, rY c2]
          simp only [pt, ia, bindR_ret, pureR_some, al, int_sub1 (x := f (kkOf progs done[i]).2.toNat) (by omega), st]
          exact next _ (upB _) (by rw [upd_len]; omega) (by rw [upd_len]; omega) (by rw [ht1]; exact upd_eq bb2)
        | false =>
          have hk2' : (kkOf progs done[i]).1 ≠ 2 := by simpa using hk2
          have ht1 : tell1 (kkOf progs) f done[i] = f := by unfold tell1; rw [if_neg (fun h => hk1' h.2), if_neg (fun h => hk2' h.2)]
          simp only [ifR_false]
          exact next h2 B2 (by omega) (by omega) (by rw [ht1]; exact bb2)
  · have hd : done.drop i = [] := List.drop_eq_nil_of_le (by omega)
    have hc : decide ((i : Int) < (done.length : Nat)) = false := by simp; omega
    rw [hd] at hf
    have hf : f = done.foldl (tell1 (kkOf progs)) f0 := hf
    simp only [f4j9, intB_lss, hc, bindR_ret, pureR_some, ifR_false, cond_beq]
    exact cont h B hle hbl' (by rw [← hf]; exact hbb)
end
end Go.Ha

namespace Go.Ha
open Go.AM Go.Proofs.YtejokpfeepbfeaaAm

section
variable {inp : Inp}

/-- The loop over what is left. -/
theorem tally3 {h0 : Heap} {w1 w2 : Value} {l : List Int} (A : IntsAt (inpOf h0) w2 l) (hp : l.Pairwise (· < ·)) (hr : ∀ x ∈ l, 0 ≤ x ∧ x ≤ 9) (hl : l.length ≤ 100) {b t : Nat} (hbl : h0.len ≤ b) (htl : t < h0.len)
    (ht : h0.bs[t]? = some (.cells [w1, w2] 0 false)) {f0 : Nat → Int} (hf0 : small f0 300)
    {hb : Heap} (B0 : Below h0.len h0 hb) (hlb : b < hb.len) (hb0 : hb.bs[b]? = some (.cells (arr f0) 0 false)) (hz : ∀ k : Nat, k < 10 → l.foldl dec' f0 k = 0) (cr : FuncId → List Value → Heap → Res) (m : Nat) (hm : l.length < m) :
    ∃ h', f4j3 cr m (pt t) (pt b) hb = some (.ret (.bool true) h') ∧ Below h0.len h0 h' := by
  have e0 : ldR hb (.pointer (some ⟨t, 1, none⟩)) = some (.ret w2 hb) := ldR_cells (B0 t _ htl ht) rfl
  simp only [f4j3, bindR_ret, pt, padd_q, pureR_some, Nat.zero_add, e0, A.len]
  refine iterK_rule (σ := List Value) _ (fun k s h => ∃ (i : Nat) (f : Nat → Int) (last : Int), i + k = l.length ∧ s = [.int .i64 last, .int .i64 i] ∧ Below h0.len h0 h ∧ b < h.len ∧ h.bs[b]? = some (.cells (arr f) 0 false) ∧ small f (300 + i) ∧ (l.drop i).foldl dec' f = l.foldl dec' f0 ∧ (∀ x ∈ l.drop i, last < x))
    (fun r => ∃ h', r = some (.ret (.bool true) h') ∧ Below h0.len h0 h') ?_ m l.length _ _ hm ⟨0, f0, -1, by omega, rfl, B0, hlb, hb0, hf0, rfl, fun x hx => by have := hr x (by simpa using hx); omega⟩
  rintro k nx s h ⟨i, f, last, hi, rfl, B, hbl', hbb, hsm, hf, hlast⟩ ih
  simp only [List.headD_cons, List.tail_cons]
  by_cases hlt : i < l.length
  · have hx : l[i]? = some l[i] := List.getElem?_eq_getElem hlt
    obtain ⟨a, e1, e2⟩ := A.get (h := h) (fun x y e => B x y (lt_len e) e) hx
    have hc : decide ((i : Int) < (l.length : Nat)) = true := by simp; exact hlt
    have hd := List.drop_eq_getElem_cons hlt
    rw [hd] at hf hlast
    have hf : (l.drop (i + 1)).foldl dec' (dec' f l[i]) = l.foldl dec' f0 := hf
    have hxr := hr _ (List.getElem_mem hlt)
    have h1 := hlast l[i] List.mem_cons_self
    have c1 : decide (l[i] ≤ last) = false := by simp; omega
    have c2 : decide (l[i] > 9) = false := by simp; omega
    have hsb := hsm l[i].toNat
    have st := arr_st hbb hxr (f l[i].toNat - 1)
    have ia := idxA_10 (b := b) hxr
    have al := arr_ld hbb hxr
    simp only [pt] at ia
    simp only [f4j5, intB_lss, hc, bindR_ret, pureR_some, ifR_true, f4j6, e1, e2, intB_leq, c1, gd_ff, intB_gtr, c2, pickV_f, ifR_false, f4j8]
    simp only [ia, bindR_ret, pureR_some, al, int_sub1 (x := f l[i].toNat) (by omega), st, f4j7, intB_inc' (n := i) (by omega)]
    refine ih (k - 1) _ _ (by omega) ⟨i + 1, dec' f l[i], l[i], by omega, rfl, ?_, by rw [upd_len]; exact hbl', upd_eq hbb, small_dec hsm _, hf, ?_⟩
    · intro x y hxl e
      rw [upd_ne (by omega)]; exact B x y hxl e
    · have := (List.pairwise_iff_getElem.1 hp)
      intro x hx
      obtain ⟨j, hj⟩ := List.getElem?_of_mem hx
      rw [List.getElem?_drop] at hj
      have hjl := (List.getElem?_eq_some_iff.1 hj).1
      have e := (List.getElem?_eq_some_iff.1 hj).2
      rw [← e]
      exact this i (i + 1 + j) hlt hjl (by omega)
  · have hd : l.drop i = [] := List.drop_eq_nil_of_le (by omega)
    have hc : decide ((i : Int) < (l.length : Nat)) = false := by simp; omega
    rw [hd] at hf
    have hf : f = l.foldl dec' f0 := hf
    have hz' : arr f = arr fun _ => 0 := by
      unfold arr
      apply List.map_congr_left
      intro k hk
      rw [hf, hz k (List.mem_range.1 hk)]
    have e5 : ldNR h 10 (.pointer (some ⟨b, 0, none⟩)) = some (.ret (.agg #[.int .i64 0, .int .i64 0, .int .i64 0, .int .i64 0, .int .i64 0, .int .i64 0, .int .i64 0, .int .i64 0, .int .i64 0, .int .i64 0]) h) := by
      rw [hz'] at hbb
      have c : cut (arr fun _ => 0) 0 10 = some (arr fun _ => 0) := Eq.trans rfl rfl
      simp only [ldNR, ldN, Heap.row, hbb, Option.bind_some, c, Option.map_some, pureR]
      exact Eq.trans rfl rfl
    have e6 : (fillL [(.int .i64 0), (.int .i64 0), (.int .i64 0), (.int .i64 0), (.int .i64 0), (.int .i64 0), (.int .i64 0), (.int .i64 0), (.int .i64 0), (.int .i64 0)] []).map (fun c => Value.agg c.toArray) =
      some (.agg #[.int .i64 0, .int .i64 0, .int .i64 0, .int .i64 0, .int .i64 0, .int .i64 0, .int .i64 0, .int .i64 0, .int .i64 0, .int .i64 0]) := Eq.trans rfl rfl
    have e7 : eqNeq .eql (aggE [.int .i64, .int .i64, .int .i64, .int .i64, .int .i64, .int .i64, .int .i64, .int .i64, .int .i64, .int .i64] (.agg #[.int .i64 0, .int .i64 0, .int .i64 0, .int .i64 0, .int .i64 0, .int .i64 0, .int .i64 0, .int .i64 0, .int .i64 0, .int .i64 0])
      (.agg #[.int .i64 0, .int .i64 0, .int .i64 0, .int .i64 0, .int .i64 0, .int .i64 0, .int .i64 0, .int .i64 0, .int .i64 0, .int .i64 0])) = some (.bool true) := Eq.trans rfl rfl
    refine ⟨h, ?_, B⟩
    simp only [f4j5, intB_lss, hc, bindR_ret, pureR_some, ifR_false, cond_beq, f4j4, e5, e6, e7, clean, cond_true, Option.bind_some, tup]
end

section
variable {h : Heap} {algo : Int} {v1 v2 v3 : Value} {start order : List Int} {progs : List (List (Int × Int))}

theorem kk_range (hr : rightE algo start progs order = 0) {d : Dn} (h1 : d.who < progs.length) (h2 : d.deed < (progs.getD d.who []).length) : ((kkOf progs d).1 = 1 ∨ (kkOf progs d).1 = 2 ∨ (kkOf progs d).1 = 3) ∧ 0 ≤ (kkOf progs d).2 ∧ (kkOf progs d).2 ≤ 9 := by
  obtain ⟨ra, rl, ro, rp, rs⟩ := rightE_ok hr
  have e : progs.getD d.who [] = progs[d.who] := by simp [h1]
  have hm : kkOf progs d ∈ progs[d.who] := by
    unfold kkOf
    rw [e] at h2 ⊢
    generalize progs[d.who] = l at h2
    simp [h2]
  have := (rp _ (List.getElem_mem h1)).2 _ hm
  exact ⟨this.kind, this.key⟩

theorem done_len (W : Whole algo start progs order) (hr : rightE algo start progs order = 0) : (doneL (runS algo start progs order)).length ≤ 16 := by
  obtain ⟨ra, rl, ro, rp, rs⟩ := rightE_ok hr
  have : ∀ n j, j + n ≤ progs.length → (doneFrom (runS algo start progs order) n j).length ≤ n * 4 := by
    intro n
    induction n with
    | zero => intro j _; simp [doneFrom]
    | succ n ih =>
      intro j hj
      have h1 := ih (j + 1) (by omega)
      have h2 := W.len j (by omega)
      have e : progs.getD j [] = progs[j]'(by omega) := by simp [show j < progs.length by omega]
      have h3 := (rp _ (List.getElem_mem (show j < progs.length by omega))).1
      rw [e] at h2
      simp only [doneFrom, List.length_append]; omega
  have := this progs.length 0 (by omega)
  unfold doneL; rw [W.nh]; omega

theorem left_len (W : Whole algo start progs order) : (leftL (runS algo start progs order)).length ≤ 20 := by
  unfold leftL
  split
  · simp
  · have : ∀ n i, (leftFrom (runS algo start progs order) n i).length ≤ n := by
      intro n
      induction n with
      | zero => intro i; simp [leftFrom]
      | succ n ih =>
        intro i
        unfold leftFrom
        split
        · simp
        · rename_i k _
          have := ih k
          rw [List.length_append]
          split <;> simp <;> omega
    exact this 20 _

/-- The counters end at none. -/
theorem counts_zero (hr : rightE algo start progs order = 0) (h4 : algo ≠ 4) : ∀ k : Nat, k < 10 →
    (leftL (runS algo start progs order)).foldl dec' ((doneL (runS algo start progs order)).foldl (tell1 (kkOf progs)) (start.foldl inc fun _ => 0)) k = 0 := by
  intro k hk
  have W := whole hr h4
  obtain ⟨ra, rl, ro, rp, rs⟩ := rightE_ok hr
  obtain ⟨s1, s2⟩ := ascB_get start none rs
  obtain ⟨l1, l2, l3⟩ := left_has W.sound.1.nodes W.sound.2
  have hstart : start.Pairwise (· < ·) := by
    rw [List.pairwise_iff_getElem]
    have : ∀ (d i : Nat) (hi : i + d + 1 < start.length), start[i]'(by omega) < start[i + d + 1] := by
      intro d
      induction d with
      | zero => intro i hi; exact s2 i _ _ (List.getElem?_eq_getElem (by omega)) (List.getElem?_eq_getElem hi)
      | succ d ih =>
        intro i hi
        have h1 := ih i (by omega)
        have h2 := s2 (i + d + 1) _ _ (List.getElem?_eq_getElem (by omega)) (List.getElem?_eq_getElem hi)
        exact Int.lt_trans h1 h2
    intro i j hi hj hij
    obtain ⟨d, rfl⟩ : ∃ d, j = i + d + 1 := ⟨j - i - 1, by omega⟩
    exact this d i hj
  have hs0 : ∀ x ∈ start, 0 ≤ x := fun x hx => by
    obtain ⟨i, hi⟩ := List.getElem?_of_mem hx
    exact (s1 i x hi).1
  rw [fold_dec _ _ (fun x hx => (l2 x hx).1) l1, fold_tell _ _ _ (fun d hd => by
    obtain ⟨a, b, _⟩ := doneS_who W d hd; exact (kk_range hr a b).2.1), fold_inc _ _ hs0 hstart]
  rw [count_good (k : Int) W.good, one_congr (l3 k (by omega) (by omega)), one_congr (has0 hr k (by omega))]
  omega

theorem count_ok (A1 : IntsAt (inpOf h) v1 start) (A2 : RowsAt (inpOf h) v2 progs) (A3 : IntsAt (inpOf h) v3 order) (hs : start.length < 9223372036854775808) (n : Nat) (hn : 30000 < n) (hn1 : start.length < n) :
    ∃ h', run (n + 7) 4 [.int .i64 algo, v1, v2, v3] h = some (.ret (.bool true) h') := by
  rw [run, callR_succ, eq4]
  by_cases hr : rightE algo start progs order = 0
  · obtain ⟨h1, w1, w2, r1, g1, g2, B1, le1⟩ := run_ok A1 A2 A3 hr (n + 1) (by omega)
    obtain ⟨x1, x2, x3, hw1⟩ := g1.cell
    obtain ⟨y1, y2, y3, hw2⟩ := g2.cell
    obtain ⟨h2, d2⟩ : ∃ h2, h2 = h1.push (.cells [.slice none 0 0, .slice none 0 0] 0 false) := ⟨_, rfl⟩
    have e8 : newR h1 [(.slice none 0 0), (.slice none 0 0)] = some (.ret (pt h1.len) h2) := by rw [d2]; exact Eq.trans rfl rfl
    have c7 : h2.bs[h1.len]? = some (.cells [.slice none 0 0, .slice none 0 0] 0 false) := by rw [d2]; exact push_new
    have e9 := stNR_row (x := w1) (y := w2) c7 (by rw [hw1, hw2]; rfl)
    obtain ⟨h3, d3⟩ : ∃ h3, h3 = h2.upd h1.len (.cells [w1, w2] 0 false) := ⟨_, rfl⟩
    rw [← d3] at e9
    have c3 : h3.bs[h1.len]? = some (.cells [w1, w2] 0 false) := by rw [d3]; exact upd_eq c7
    have l2 : h2.len = h1.len + 1 := by rw [d2, push_len]
    have l3 : h3.len = h1.len + 1 := by rw [d3, upd_len, l2]
    have keep3 : ∀ (b : Nat) (y : Blk), h1.bs[b]? = some y → h3.bs[b]? = some y := fun b y e => by
      have := lt_len e
      rw [d3, upd_ne (by omega), d2]; exact push_old e
    obtain ⟨h4, r4, B4, le4⟩ := lives_ok h3 n (by omega)
    have q1 : extr 0 (.tuple #[.agg #[w1, w2], .int .i64 0]) = some (.agg #[w1, w2]) := rfl
    have q2 : extr 1 (.tuple #[.agg #[w1, w2], .int .i64 0]) = some (.int .i64 0) := rfl
    have q3 : ((0 : Int) != 0) = false := rfl
    by_cases h4a : algo = 4
    · obtain ⟨h5, r5, B5, le5⟩ := lives_ok h4 n (by omega)
      have q4 : (algo == 4) = true := by simp [h4a]
      refine ⟨h5, ?_⟩
      simp only [run, pt] at r1 e8 e9 r4 r5
      simp only [f4, bindR_ret, r1, q1, q2, pureR_some, e8, e9, r4, unV_not, Bool.not_true, gd_ff, intB_neq, q3, pickV_f, intB_eql, q4, ifR_true, r5, clean, cond_true, Option.bind_some, tup]
    · have q4 : (algo == 4) = false := by simp [h4a]
      have red : f4 (callR Go.Proofs.Try.prog cfg (n + 6)) (n + 6) (.int .i64 algo) v1 v2 v3 h = f4j1 (run (n + 6)) (n + 6) v1 v2 (pt h1.len) h4 := by
        simp only [run, pt] at r1 e8 e9 r4 ⊢
        simp only [f4, bindR_ret, r1, q1, q2, pureR_some, e8, e9, r4, unV_not, Bool.not_true, gd_ff, intB_neq, q3, pickV_f, intB_eql, q4, ifR_false]
      rw [red]
      have W := whole hr h4a
      obtain ⟨ra, rl, ro, rp, rs⟩ := rightE_ok hr
      obtain ⟨s1, s2⟩ := ascB_get start none rs
      have hsl := start_len rs
      have hm : ∀ b y, inpOf h b = some y → inpOf h4 b = some y := fun b y e => B4 b y (by have := lt_len (show h.bs[b]? = some y from e); omega) (keep3 b y (B1 b y (lt_len e) e))
      have c4 : h4.bs[h1.len]? = some (.cells [w1, w2] 0 false) := B4 _ _ (by omega) c3
      have ext1 : ∀ (b : Nat) (y : Blk), h1.bs[b]? = some y → h4.bs[b]? = some y := fun b y e => B4 b y (by have := lt_len e; omega) (keep3 b y e)
      have D4 := (g1.dones).ext ext1
      have L4 : IntsAt (inpOf h4) w2 (leftL (runS algo start progs order)) := (GRow.ints g2).mono ext1
      obtain ⟨h5, d5⟩ : ∃ h5, h5 = h4.push (.cells (arr fun _ => 0) 0 false) := ⟨_, rfl⟩
      have e10 : newR h4 [(.int .i64 0), (.int .i64 0), (.int .i64 0), (.int .i64 0), (.int .i64 0), (.int .i64 0), (.int .i64 0), (.int .i64 0), (.int .i64 0), (.int .i64 0)] = some (.ret (pt h4.len) h5) := by rw [d5]; exact Eq.trans rfl rfl
      have c5 : h5.bs[h4.len]? = some (.cells (arr fun _ => 0) 0 false) := by rw [d5]; exact push_new
      have A1' := A1.mono hm
      simp only [f4j1, bindR_ret, e10, A1'.len]
      obtain ⟨Q, hQ⟩ : ∃ Q : Res → Prop, Q = fun r => ∃ h', r = some (.ret (.bool true) h') := ⟨_, rfl⟩
      suffices H : Q (iterK (n + 6) (fun nx0 (σ : List Value) h => f4j13 (run (n + 6)) (n + 6) nx0 v2 (pt h1.len) (pt h4.len) v1 (.int .i64 (start.length : Nat)) (σ.headD undef) h) [.int .i64 (0 : Nat)] h5) by rw [hQ] at H; exact H
      refine tally1 (inp := inpOf h4) (fun b y e => e) A1' (fun x hx => by
        obtain ⟨i, hi⟩ := List.getElem?_of_mem hx
        have := s1 i x hi; exact ⟨this.1, this.2.1⟩) (by omega) rfl _ (by rw [d5]; exact .push _ _) (by rw [d5, push_len]) c5 _ _ (by omega) Q ?_
      intro h6 B6 l6 c6
      have sm1 : small (start.foldl inc fun _ => 0) 100 := by
        have : ∀ (l : List Int) (f : Nat → Int) (n : Nat), small f n → small (l.foldl inc f) (n + l.length) := by
          intro l
          induction l with
          | nil => intro f n hf; exact hf
          | cons x l ih => intro f n hf; have := ih _ _ (small_inc hf x); simp only [List.foldl_cons, List.length_cons]; rw [show n + (l.length + 1) = n + 1 + l.length by omega]; exact this
        exact small_mono (this start _ 0 (fun _ => by simp)) (by omega)
      have hdl := done_len W hr
      refine tally2 (inp := inpOf h4) (fun b y e => e) (A2.mono hm) (fun d hd => by
        obtain ⟨a, b, _⟩ := doneS_who W d hd; exact ⟨a, b, (kk_range hr a b).2⟩) (by omega) (Nat.le_refl _) (by omega) D4 c4 sm1 B6 (by omega) (by omega) c6 _ _ (by omega) Q ?_
      intro h7 B7 l7 l7' c7'
      have sm2 : small ((doneL (runS algo start progs order)).foldl (tell1 (kkOf progs)) (start.foldl inc fun _ => 0)) 300 := by
        have : ∀ (l : List Dn) (f : Nat → Int) (n : Nat), small f n → small (l.foldl (tell1 (kkOf progs)) f) (n + l.length) := by
          intro l
          induction l with
          | nil => intro f n hf; exact hf
          | cons x l ih => intro f n hf; have := ih _ _ (small_tell (kk := kkOf progs) hf x); simp only [List.foldl_cons, List.length_cons]; rw [show n + (l.length + 1) = n + 1 + l.length by omega]; exact this
        exact small_mono (this _ _ 100 sm1) (by omega)
      obtain ⟨l1, l2', l3'⟩ := left_has W.sound.1.nodes W.sound.2
      have hll := left_len W
      obtain ⟨h8, r8, _⟩ := tally3 L4 l1 l2' (by omega) (b := h4.len) (t := h1.len) (Nat.le_refl _) (by omega) c4 sm2 B7 (by omega) c7' (counts_zero hr h4a) (run (n + 6)) (n + 6) (by omega)
      rw [hQ]
      exact ⟨h8, r8⟩
  · obtain ⟨h1, r1, B1, le1⟩ := run_err A1 A2 A3 hs hr (n + 4) (by omega) (by omega)
    obtain ⟨h2, d2⟩ : ∃ h2, h2 = h1.push (.cells [.slice none 0 0, .slice none 0 0] 0 false) := ⟨_, rfl⟩
    have e8 : newR h1 [(.slice none 0 0), (.slice none 0 0)] = some (.ret (pt h1.len) h2) := by rw [d2]; exact Eq.trans rfl rfl
    have c7 : h2.bs[h1.len]? = some (.cells [.slice none 0 0, .slice none 0 0] 0 false) := by rw [d2]; exact push_new
    have e9 := stNR_row (x := .slice none 0 0) (y := .slice none 0 0) c7 rfl
    obtain ⟨h3, d3⟩ : ∃ h3, h3 = h2.upd h1.len (.cells [.slice none 0 0, .slice none 0 0] 0 false) := ⟨_, rfl⟩
    rw [← d3] at e9
    obtain ⟨h4, r4, B4, le4⟩ := lives_ok h3 n (by omega)
    obtain ⟨h5, r5, B5, le5⟩ := lives_ok h4 n (by omega)
    have q1 : extr 0 (.tuple #[.agg #[.slice none 0 0, .slice none 0 0], .int .i64 (rightE algo start progs order)]) = some (.agg #[.slice none 0 0, .slice none 0 0]) := rfl
    have q2 : extr 1 (.tuple #[.agg #[.slice none 0 0, .slice none 0 0], .int .i64 (rightE algo start progs order)]) = some (.int .i64 (rightE algo start progs order)) := rfl
    have q3 : (rightE algo start progs order != 0) = true := by simpa using hr
    have gsk : ∀ w r h, gd w skipV r h = some (.ret skipV h) := fun w r h => gd_skip w r h
    refine ⟨h5, ?_⟩
    simp only [run, pt] at r1 e8 e9 r4 r5
    simp only [f4, bindR_ret, r1, q1, q2, pureR_some, e8, e9, r4, unV_not, Bool.not_true, gd_ff, intB_neq, q3, pickV_f, gd_ft, gsk, pickV_t, ifR_true, r5, clean, cond_true, Option.bind_some, tup]
end
end Go.Ha

namespace Go.Ha
open Classical

theorem work_tick (S : Sys) (x : Hd) : work S.tick x = work S x := rfl

theorem work_step {S : Sys} (G : Sound S) (h3 : S.algo = 3) {j : Nat} (hj : j < S.nh) (hd : hasDeed S j = true) : work (S.step j) ((S.step j).hands j) + 1 ≤ work S (S.hands j) := by
  obtain ⟨⟨kd, k⟩, hd'⟩ := Option.isSome_iff_exists.1 hd
  obtain ⟨s, F⟩ := From.begin G.inv G.ainv hj hd'
  have hal := AInv.algoAt F.I F.lt F.st
  rw [beginS_algo, h3] at hal
  have hm : s = .m0 ∨ s = .m1 ∨ s = .m2 ∨ s = .m3 := by cases s <;> simp [AlgoOk] at hal ⊢
  have o := own_m F (by rw [beginS_algo, h3]; decide) hm
  rw [step_eq hd']
  show work (post (beginS S j) j kd k).tick ((post (beginS S j) j kd k).hands j) + 1 ≤ _
  rw [work_tick]
  have b : work (beginS S j) ((beginS S j).hands j) ≤ work S (S.hands j) := by
    by_cases hst : (S.hands j).st = none
    · have e : (beginS S j).hands j = { S.hands j with st := some (St.start S.algo), is := false } := by
        unfold beginS; rw [if_pos hst]; show (S.setH j _).hands j = _; rw [hands_setH]
      have hp := (List.getElem?_eq_some_iff.1 hd').1
      have hs : St.start S.algo = .m0 := by rw [h3]; rfl
      rw [hs] at e
      have hb3 : base S.algo = 14 := by rw [h3]; rfl
      have w1 : work (beginS S j) { S.hands j with st := some .m0, is := false } = 14 + base (beginS S j).algo * (left' (S.hands j) - 1) := rfl
      have w2 : work S (S.hands j) = base S.algo * left' (S.hands j) := by unfold work; rw [hst]
      have : 1 ≤ left' (S.hands j) := by unfold left'; omega
      rw [e, w1, w2, beginS_algo, hb3]; omega
    · have : beginS S j = S := by unfold beginS; rw [if_neg hst]
      rw [this]; exact Nat.le_refl _
  omega

/-- What ended did so before now. -/
def Fins (S : Sys) (o : Nat) : Prop := ∀ (i : Nat) (d : Dn), (S.told o)[i]? = some d → i < (S.hands o).pos → ∃ f : Nat, d.fin = f ∧ f < S.now

theorem step_fins {S : Sys} (G : Sound S) {j o : Nat} (hj : j < S.nh) (F : Fins S o) : Fins (S.step j) o := by
  by_cases e : o = j
  · subst e
    cases hd : hasDeed S o with
    | false => rw [step_no hd]; exact F
    | true =>
      obtain ⟨⟨kd, k⟩, hd'⟩ := Option.isSome_iff_exists.1 hd
      have ht : ∀ (i : Nat) (d : Dn), ((beginS S o).told o)[i]? = some d → i < (S.hands o).pos → ∃ f : Nat, d.fin = f ∧ f < S.now := by
        intro i d hi hp
        unfold beginS at hi
        split at hi
        · have e : ((S.setH o { S.hands o with st := some (St.start S.algo), is := false }).tell o (S.told o ++ [beginD S o])).told o = S.told o ++ [beginD S o] := by simp [Sys.tell]
          rw [e] at hi
          have hl := (G.inv.hands o hj).told
          rw [List.getElem?_append_left (by split at hl <;> omega)] at hi
          exact F i d hi hp
        · exact F i d hi hp
      rw [step_eq hd']
      intro i d hi hp
      have hi : ((post (beginS S o) o kd k).told o)[i]? = some d := hi
      have hp : i < ((post (beginS S o) o kd k).hands o).pos := hp
      show ∃ f : Nat, d.fin = f ∧ f < (post (beginS S o) o kd k).now + 1
      unfold post at hi hp ⊢
      have hpp := act_pos (beginS S o) o o kd k
      rw [beginS_pos] at hpp
      split at hi
      · rename_i hb
        rw [if_pos hb] at hp ⊢
        obtain ⟨C, hC⟩ : ∃ C, C = (act (beginS S o) o kd k).1 := ⟨_, rfl⟩
        rw [← hC] at hi hp hpp ⊢
        have hnow : C.now = S.now := by rw [hC, act_now, beginS_now]
        have hh : (endS C o).hands o = { C.hands o with pos := (C.hands o).pos + 1, st := none } := hands_setH _ _ _
        have htl : (endS C o).told o = (C.told o).modify (C.hands o).pos fun d => { d with fin := C.now, is := (C.hands o).is } := by simp [endS, Sys.setH, Sys.tell]
        have hn2 : (endS C o).now = S.now := hnow
        rw [hn2]
        rw [htl, List.getElem?_modify] at hi
        rw [hh] at hp
        have hp : i < (C.hands o).pos + 1 := hp
        have hct : C.told = (beginS S o).told := by rw [hC, act_told]
        cases hx : (C.told o)[i]? with
        | none => rw [hx] at hi; simp at hi
        | some d0 =>
          rw [hx] at hi
          simp only [Option.map_eq_map, Option.map_some, Option.some.injEq] at hi
          by_cases e : (C.hands o).pos = i
          · rw [if_pos e] at hi
            exact ⟨S.now, by rw [← hi, hnow], by omega⟩
          · rw [if_neg e] at hi
            subst hi
            obtain ⟨f, f1, f2⟩ := ht i d0 (by rw [← hct]; exact hx) (by omega)
            exact ⟨f, f1, by omega⟩
      · rename_i hb
        rw [if_neg hb] at hp ⊢
        rw [act_told] at hi
        rw [hpp.1] at hp
        obtain ⟨f, f1, f2⟩ := ht i d hi hp
        exact ⟨f, f1, by rw [act_now, beginS_now]; omega⟩
  · obtain ⟨h1, h2⟩ := step_others (S := S) e
    intro i d hi hp
    rw [h2] at hi
    rw [h1] at hp
    obtain ⟨f, f1, f2⟩ := F i d hi hp
    exact ⟨f, f1, by rw [step_now]; split <;> omega⟩

theorem order_fins : ∀ (order : List Int) (S : Sys) (o : Nat), Sound S → Fins S o → Fins (runOrder S order) o := by
  intro order
  induction order with
  | nil => intro S o _ F; exact F
  | cons who order ih =>
    intro S o G F
    have e : runOrder S (who :: order) = runOrder (if inside who 0 ((S.nh : Int) - 1) then S.step who.toNat else S) order := rfl
    rw [e]
    cases hin : inside who 0 ((S.nh : Int) - 1) with
    | false => exact ih S o G F
    | true =>
      have hj : who.toNat < S.nh := by
        have : 0 ≤ who ∧ who ≤ (S.nh : Int) - 1 := by simpa [inside] using hin
        omega
      simp only [if_true]
      exact ih _ o (G.step hj) (step_fins G hj F)

/-- Alone, it ends. -/
theorem alone_ends : ∀ (n : Nat) (S : Sys) (o : Nat), Sound S → S.algo = 3 → o < S.nh → work S (S.hands o) ≤ n → hasDeed (runOrder S (List.replicate n (o : Int))) o = false := by
  intro n
  induction n with
  | zero =>
    intro S o G h3 ho hw
    show hasDeed S o = false
    cases hd : hasDeed S o with
    | false => rfl
    | true => have := work_step G h3 ho hd; omega
  | succ n ih =>
    intro S o G h3 ho hw
    have hin : inside (o : Int) 0 ((S.nh : Int) - 1) = true := by simp [inside]; omega
    have e : runOrder S (List.replicate (n + 1) (o : Int)) = runOrder (if inside (o : Int) 0 ((S.nh : Int) - 1) then S.step (o : Int).toNat else S) (List.replicate n (o : Int)) := rfl
    rw [e, hin]
    simp only [if_true, Int.toNat_natCast]
    cases hd : hasDeed S o with
    | true =>
      have := work_step G h3 ho hd
      exact ih _ o (G.step ho) (by rw [step_algo]; exact h3) (by rw [step_nh]; exact ho) (by omega)
    | false =>
      rw [step_no hd]
      have : ∀ m, hasDeed (runOrder S (List.replicate m (o : Int))) o = false := by
        intro m
        induction m with
        | zero => exact hd
        | succ m ih2 =>
          have e : runOrder S (List.replicate (m + 1) (o : Int)) = runOrder (if inside (o : Int) 0 ((S.nh : Int) - 1) then S.step (o : Int).toNat else S) (List.replicate m (o : Int)) := rfl
          rw [e, hin]
          simp only [if_true, Int.toNat_natCast]
          rw [step_no hd]; exact ih2
      exact this n

theorem key_ge {S : Sys} (N : NodesOk S) (A : AInv S) (i : Nat) (hi : i < S.nn) : -1 ≤ (S.nodes i).key := by
  cases hm : (S.nodes i).mark with
  | true => have := A.low i hi hm; omega
  | false =>
    have up : ∀ a b, Reach S a b → (S.nodes a).key ≤ (S.nodes b).key := by
      intro a b r
      induction r with
      | refl => exact Int.le_refl _
      | step h1 h2 _ ih => have := (N.next _ h1 _ h2).2; omega
    have := up 0 i (A.ur i hi hm)
    rw [N.head] at this; exact this

theorem work_small {S : Sys} (G : Sound S) (h3 : S.algo = 3) {j : Nat} (hj : j < S.nh) : work S (S.hands j) ≤ 100 := by
  have H := G.inv.hands j hj
  have hs := H.small
  have hl : left' (S.hands j) ≤ 4 := by unfold left'; omega
  have hb : base S.algo = 14 := by rw [h3]; rfl
  unfold work
  cases hst : (S.hands j).st with
  | none => simp only [hb]; omega
  | some s =>
    have hal := AInv.algoAt G.inv hj hst
    rw [h3] at hal
    simp only [hb]
    have b1 := bad_le S (S.hands j) .m1 (kdOf (S.hands j))
    have b2 := bad_le S (S.hands j) .m2 (kdOf (S.hands j))
    have hkc : s.begins = false → kc S (S.hands j) ≤ 11 := by
      intro hb
      obtain ⟨p, c, e1, e2, e3, e4⟩ := AInv.places G.inv hj hst hb
      unfold kc; rw [e2]; simp only [Option.getD_some]
      have : -1 ≤ (S.nodes c).key := by
        obtain ⟨kd, k, hd, A⟩ := H.at' s hst
        obtain ⟨p', c', x1, x2, x3, x4, x5, x6, _⟩ := A.on hb
        rw [e1] at x1; rw [e2] at x2
        simp only [Option.some.injEq] at x1 x2; subst x1; subst x2
        have : ∀ i, i < S.nn → -1 ≤ (S.nodes i).key := by
          intro i hi
          have := G.ainv
          exact key_ge G.inv.nodes this i hi
        exact this _ e4
      omega
    cases s <;> simp [AlgoOk] at hal <;> simp only [cost]
    · omega
    · have := hkc rfl; omega
    · omega
    · omega

theorem step_idle {S : Sys} {o : Nat} (ho : hasDeed S o = false) (j : Nat) : (S.step j).hands o = S.hands o ∧ (S.step j).told o = S.told o := by
  by_cases e : o = j
  · subst e; rw [step_no ho]; exact ⟨rfl, rfl⟩
  · exact step_others e
theorem hasDeed_congr {S T : Sys} {o : Nat} (h : T.hands o = S.hands o) : hasDeed T o = hasDeed S o := by unfold hasDeed; rw [h]
theorem sweep_idle {o : Nat} : ∀ (n : Nat) (S : Sys) (b : Bool) (j : Nat), hasDeed S o = false → (sweepFrom n S b j).1.hands o = S.hands o ∧ (sweepFrom n S b j).1.told o = S.told o := by
  intro n
  induction n with
  | zero => intro S b j _; exact ⟨rfl, rfl⟩
  | succ n ih =>
    intro S b j h
    rw [sweep_succ]
    split
    · obtain ⟨a1, a2⟩ := step_idle h j
      obtain ⟨b1, b2⟩ := ih (S.step j) true (j + 1) (by rw [hasDeed_congr a1]; exact h)
      exact ⟨b1.trans a1, b2.trans a2⟩
    · exact ih S b (j + 1) h
theorem rounds_idle {o : Nat} : ∀ (n : Nat) (S : Sys), hasDeed S o = false → (rounds n S).hands o = S.hands o ∧ (rounds n S).told o = S.told o := by
  intro n
  induction n with
  | zero => intro S _; exact ⟨rfl, rfl⟩
  | succ n ih =>
    intro S h
    obtain ⟨a1, a2⟩ := sweep_idle S.nh S false 0 h
    show (if (sweepFrom S.nh S false 0).2 = true then _ else (sweepFrom S.nh S false 0).1).hands o = _ ∧ (if (sweepFrom S.nh S false 0).2 = true then _ else (sweepFrom S.nh S false 0).1).told o = _
    split
    · obtain ⟨b1, b2⟩ := ih (sweepFrom S.nh S false 0).1 (by rw [hasDeed_congr a1]; exact h)
      exact ⟨b1.trans a1, b2.trans a2⟩
    · exact ⟨a1, a2⟩

theorem free_right {start order : List Int} {progs : List (List (Int × Int))} (hr : rightE 3 start progs order = 0) (hl : order.length ≤ 60) (l : List Int) (h : l.length ≤ 300) : rightE 3 start progs (order ++ l) = 0 := by
  have : (4 < progs.length ∨ 500 < (order ++ l).length) ↔ (4 < progs.length ∨ 500 < order.length) := by rw [List.length_append]; omega
  have e : rightE 3 start progs (order ++ l) = rightE 3 start progs order := by unfold rightE; simp only [this]
  rw [e]; exact hr

theorem free_done {start order : List Int} {progs : List (List (Int × Int))} (hr : rightE 3 start progs order = 0) (hl : order.length ≤ 60) {o : Nat} (ho : o < progs.length) :
    ∀ d ∈ doneL (runS 3 start progs (order ++ List.replicate 200 (o : Int))), d.who = o → ∃ f : Nat, d.fin = f ∧ f < order.length + 200 := by
  have hr2 := free_right hr hl (List.replicate 200 (o : Int)) (by rw [List.length_replicate]; omega)
  have W := whole hr2 (by decide)
  intro d hd hw
  have hd0 := hd
  unfold doneL at hd
  rw [W.nh] at hd
  obtain ⟨j, _, hj, hm⟩ := (mem_done _ _).1 hd
  obtain ⟨i, hi⟩ := List.getElem?_of_mem hm
  have hj' : j < progs.length := by omega
  have e := (W.who j hj' i d hi).1
  have hjo : j = o := by omega
  subst hjo
  have G0 := sound0 hr (by decide)
  obtain ⟨S1, hS1⟩ : ∃ S1, S1 = runOrder (sys0 3 start progs) order := ⟨_, rfl⟩
  obtain ⟨a1, a2, a3, a4, a5, a6⟩ := order_total order _ G0
  rw [← hS1] at a1 a2 a3 a6
  have a6 : S1.now ≤ order.length := by
    have : (sys0 3 start progs).now = 0 := rfl
    omega
  have al : S1.algo = 3 := a2
  have nh1 : S1.nh = progs.length := a3
  have hj1 : j < S1.nh := by omega
  obtain ⟨S2, hS2⟩ : ∃ S2, S2 = runOrder S1 (List.replicate 200 (j : Int)) := ⟨_, rfl⟩
  have no : hasDeed S2 j = false := by
    rw [hS2]; exact alone_ends 200 S1 j a1 al hj1 (by have := work_small a1 al hj1; omega)
  obtain ⟨b1, b2, b3, b4, b5, b6⟩ := order_total (List.replicate 200 (j : Int)) _ a1
  rw [← hS2] at b1 b3 b6
  have e12 : runOrder (sys0 3 start progs) (order ++ List.replicate 200 (j : Int)) = S2 := by
    rw [hS2, hS1]; unfold runOrder; rw [List.foldl_append]
  have er : runS 3 start progs (order ++ List.replicate 200 (j : Int)) = rounds 5000 S2 := by unfold runS; rw [e12]
  obtain ⟨c1, c2⟩ := rounds_idle 5000 S2 no
  rw [er, c2] at hi
  have F0 : Fins (sys0 3 start progs) j := fun i d h _ => by simp [sys0] at h
  have F2 : Fins S2 j := by rw [← e12]; exact order_fins _ _ _ G0 F0
  have H := b1.inv.hands j (by omega)
  have hst : (S2.hands j).st = none := by
    cases h : (S2.hands j).st with
    | none => rfl
    | some s =>
      obtain ⟨kd, k, h1, _⟩ := H.at' s h
      unfold hasDeed at no; rw [h1] at no; simp at no
  have ht := H.told
  rw [if_pos hst] at ht
  have hil := (List.getElem?_eq_some_iff.1 hi).1
  obtain ⟨f, f1, f2⟩ := F2 i d hi (by omega)
  have : (List.replicate 200 (j : Int)).length = 200 := List.length_replicate
  exact ⟨f, f1, by omega⟩
end Go.Ha

namespace Go.Ha
open Go.AM Go.Proofs.YtejokpfeepbfeaaAm

section
variable {inp : Inp} {h : Heap}

theorem last1 {y : Int} (hy : -1 ≤ y ∧ y ≤ 9) : intB .add (.int .i64 y) (.int .i64 1) = some (.int .i64 (y + 1)) := int_add1 (by omega)

/-- The loop over the keys. -/
theorem hright_keys (I : InpOk inp h) {t0 t2 t9 v : Value} {l : List Int} (A : IntsAt inp v l) (hl : l.length < 9223372036854775808) (n m f : Nat) (hf : l.length < f) :
    iterK f (fun nx0 (σ : List Value) h => f12j10 (run (n + 1)) m nx0 t0 t2 t9 (σ.headD undef) (σ.tail.headD undef) v (.int .i64 (l.length : Nat)) (σ.tail.tail.headD undef) h) [.bool true, .int .i64 (-1), .int .i64 (0 : Nat)] h =
      f12j1 (run (n + 1)) m t0 t2 t9 (.bool (ascB none l)) h := by
  refine iterK_rule (σ := List Value) _ (fun k s h' => h' = h ∧ ∃ (i : Nat) (b : Bool) (p : Option Int), i + k = l.length ∧ s = [.bool b, .int .i64 (p.getD (-1)), .int .i64 i] ∧ (b = true → ∀ y, p = some y → 0 ≤ y ∧ y ≤ 9) ∧ (b && ascB p (l.drop i)) = ascB none l)
    (fun r => r = f12j1 (run (n + 1)) m t0 t2 t9 (.bool (ascB none l)) h) ?_ f l.length _ h hf ⟨rfl, 0, true, none, by omega, rfl, fun _ y h => by simp at h, by simp⟩
  rintro k nx s h' ⟨he, i, b, p, hi, rfl, hb, hall⟩ ih
  rw [he]
  simp only [List.headD_cons, List.tail_cons]
  have gsk : ∀ w r h, gd w skipV r h = some (.ret skipV h) := fun w r h => gd_skip w r h
  by_cases hlt : i < l.length
  · have hx : l[i]? = some l[i] := List.getElem?_eq_getElem hlt
    obtain ⟨a, e1, e2⟩ := A.get I hx
    have hd : l.drop i = l[i] :: l.drop (i + 1) := List.drop_eq_getElem_cons hlt
    have hc : decide ((i : Int) < (l.length : Nat)) = true := by simp; exact hlt
    rw [hd] at hall
    simp only [f12j10, intB_lss, hc, bindR_ret, pureR_some, ifR_true, f12j11, e1, e2]
    cases b with
    | false =>
      simp only [gd_tf, bindR_ret, pickV_f, pureR_some, f12j12, intB_inc' (n := i) (by omega)]
      exact ih (k - 1) _ _ (by omega) ⟨rfl, i + 1, false, some l[i], by omega, rfl, fun h => by simp at h, by rw [← hall]; simp⟩
    | true =>
      have hp := hb rfl
      have hy : -1 ≤ p.getD (-1) ∧ p.getD (-1) ≤ 9 := by
        cases p with
        | none => decide
        | some y => have := hp y rfl; simp only [Option.getD_some]; omega
      have w := between_ok l[i] (p.getD (-1) + 1) 9 n h
      simp only [gd_tt, bindR_ret, last1 hy, pureR_some, w, pickV_t, f12j12, intB_inc' (n := i) (by omega)]
      refine ih (k - 1) _ _ (by omega) ⟨rfl, i + 1, _, some l[i], by omega, rfl, ?_, ?_⟩
      · intro h y e
        simp only [Option.some.injEq] at e; subst e
        have : p.getD (-1) + 1 ≤ l[i] ∧ l[i] ≤ 9 := by simpa [inside] using h
        omega
      · rw [← hall, Bool.true_and]
        simp only [ascB]
        congr 1
        cases p with
        | none => simp [inside]
        | some y =>
          have := hp y rfl
          simp only [Option.getD_some, inside]
          rw [Bool.eq_iff_iff]
          simp only [Bool.and_eq_true, decide_eq_true_eq]
          omega
  · have hd : l.drop i = [] := List.drop_eq_nil_of_le (by omega)
    have hc : decide ((i : Int) < (l.length : Nat)) = false := by simp; omega
    rw [hd] at hall
    simp only [ascB, Bool.and_true] at hall
    simp only [f12j10, intB_lss, hc, bindR_ret, pureR_some, ifR_false, cond_beq, ← hall]

/-- The loop over one hand's deeds. -/
theorem hright_prog {h0 : Heap} (I0 : InpOk inp h0) {w : Value} {p : List (Int × Int)} (A : ProgAt inp w p) (hl : p.length < 9223372036854775808) (n m : Nat) (nx2 : List Value → Heap → Res) (t0 t9 t10 t41 t42 t43 : Value) (b0 : Bool) (Q : Res → Prop)
    (good : ∀ h', Below h0.len h0 h' → h0.len ≤ h'.len → Q (f12j6 (run (n + 1)) m nx2 t0 t9 (.bool (b0 && p.all deedB)) t41 t42 t43 h'))
    (f : Nat) (hf : p.length < f) :
    Q (iterK f (fun nx4 (σ : List Value) h => f12j7 (run (n + 1)) m nx2 nx4 t0 t9 (σ.headD undef) t41 t42 t43 w (.int .i64 (p.length : Nat)) (σ.tail.headD undef) h) [.bool b0, .int .i64 (0 : Nat)] h0) := by
  refine iterK_rule (σ := List Value) _ (fun n s h' => Below h0.len h0 h' ∧ h0.len ≤ h'.len ∧ ∃ (i : Nat) (b : Bool), i + n = p.length ∧ s = [.bool b, .int .i64 i] ∧ (b && (p.drop i).all deedB) = (b0 && p.all deedB)) Q ?_ f p.length _ h0 hf ⟨.refl _ _, Nat.le_refl _, 0, b0, by omega, rfl, rfl⟩
  rintro k nx s h ⟨B, hle, i, b, hi, rfl, hall⟩ ih
  have I := I0.below B
  simp only [List.headD_cons, List.tail_cons]
  by_cases hlt : i < p.length
  · have hx : p[i]? = some p[i] := List.getElem?_eq_getElem hlt
    obtain ⟨a, e1, e2⟩ := A.get I hx
    have hd : p.drop i = p[i] :: p.drop (i + 1) := List.drop_eq_getElem_cons hlt
    have hc : decide ((i : Int) < (p.length : Nat)) = true := by simp; exact hlt
    rw [hd] at hall
    simp only [List.all_cons] at hall
    have gsk : ∀ w r h, gd w skipV r h = some (.ret skipV h) := fun w r h => gd_skip w r h
    obtain ⟨h1, hh1⟩ : ∃ h1, h1 = h.push (.cells [.int .i64 p[i].1, .int .i64 p[i].2] 0 false) := ⟨_, rfl⟩
    have hs := st2 (h := h) p[i].1 p[i].2
    rw [← hh1] at hs
    have hnew : h1.bs[h.len]? = some (.cells [.int .i64 p[i].1, .int .i64 p[i].2] 0 false) := by rw [hh1]; exact push_new
    have l0 : ldR h1 (.pointer (some ⟨h.len, 0 + 0, none⟩)) = some (.ret (.int .i64 p[i].1) h1) := ldR_cells hnew rfl
    have l1 : ldR h1 (.pointer (some ⟨h.len, 0 + 1, none⟩)) = some (.ret (.int .i64 p[i].2) h1) := ldR_cells hnew rfl
    have B1 : Below h0.len h0 h1 := by rw [hh1]; exact B.trans (.push h _)
    have hle1 : h0.len ≤ h1.len := by rw [hh1]; simp [Heap.len, Heap.push] at *; omega
    have w1 := between_ok p[i].1 1 3 n h1
    have w2 := between_ok p[i].2 0 9 n h1
    have next : ∀ b', (b' && (p.drop (i + 1)).all deedB) = (b0 && p.all deedB) → Q (f12j9 (run (n + 1)) m nx2 nx t0 t9 (.bool b') t41 t42 t43 w (.int .i64 (p.length : Nat)) (.int .i64 i) h1) := by
      intro b' hn
      simp only [f12j9, bindR_ret, pureR_some, intB_inc' (n := i) (by omega)]
      exact ih (k - 1) _ _ (by omega) ⟨B1, hle1, i + 1, b', by omega, rfl, hn⟩
    simp only [pt] at hs
    simp only [f12j7, intB_lss, hc, bindR_ret, pureR_some, ifR_true, f12j8, e1, e2, new2, pt, hs, padd_q]
    cases b with
    | false =>
      simp only [gd_tf, bindR_ret, pickV_f, pureR_some]
      exact next false (by rw [← hall]; simp)
    | true =>
      simp only [gd_tt, bindR_ret, l0, w1, pickV_t, pureR_some]
      cases c1 : inside p[i].1 1 3 with
      | false =>
        simp only [gd_tf, bindR_ret, pickV_f, pureR_some]
        exact next false (by rw [← hall]; simp [deedB, c1])
      | true =>
        simp only [gd_tt, bindR_ret, l1, w2, pickV_t, pureR_some]
        exact next _ (by rw [← hall]; simp [deedB, c1])
  · have hd : p.drop i = [] := List.drop_eq_nil_of_le (by omega)
    have hc : decide ((i : Int) < (p.length : Nat)) = false := by simp; omega
    rw [hd] at hall
    simp only [List.all_nil, Bool.and_true] at hall
    simp only [f12j7, intB_lss, hc, bindR_ret, pureR_some, ifR_false, cond_beq, hall]
    exact good h B hle

/-- The loop over all hands' deeds. -/
theorem hright_progs {h0 : Heap} (I0 : InpOk inp h0) {v t0 : Value} {l : List (List (Int × Int))} (A : RowsAt inp v l) (hl : l.length < 9223372036854775808) (hp : ∀ p ∈ l, p.length < 9223372036854775808) (n m : Nat) (hm : l.length < m) (hm2 : ∀ p ∈ l, p.length < m) (m0 b0 : Bool) (Q : Res → Prop)
    (good : ∀ h', Below h0.len h0 h' → h0.len ≤ h'.len → Q (f12j2 (run (n + 1)) m t0 (.bool (m0 || l.any fun p => decide (4 < p.length))) (.bool (b0 && l.all fun p => p.all deedB)) h')) :
    Q (f12j1 (run (n + 1)) m t0 v (.bool m0) (.bool b0) h0) := by
  simp only [f12j1, bindR_ret, A.len]
  refine iterK_rule (σ := List Value) _ (fun n s h' => Below h0.len h0 h' ∧ h0.len ≤ h'.len ∧ ∃ (i : Nat) (m1 b : Bool), i + n = l.length ∧ s = [.bool m1, .bool b, .int .i64 i] ∧ (m1 || (l.drop i).any fun p => decide (4 < p.length)) = (m0 || l.any fun p => decide (4 < p.length)) ∧
    (b && (l.drop i).all fun p => p.all deedB) = (b0 && l.all fun p => p.all deedB)) Q ?_ m l.length _ h0 hm ⟨.refl _ _, Nat.le_refl _, 0, m0, b0, by omega, rfl, rfl, rfl⟩
  rintro k nx s h ⟨B, hle, i, m1, b, hi, rfl, hany, hall⟩ ih
  have I := I0.below B
  simp only [List.headD_cons, List.tail_cons]
  by_cases hlt : i < l.length
  · have hx : l[i]? = some l[i] := List.getElem?_eq_getElem hlt
    obtain ⟨a, w, e1, e2, e3⟩ := A.get I hx
    have hd : l.drop i = l[i] :: l.drop (i + 1) := List.drop_eq_getElem_cons hlt
    have hc : decide ((i : Int) < (l.length : Nat)) = true := by simp; exact hlt
    have hpl := hp _ (List.getElem_mem hlt)
    rw [hd] at hall hany
    simp only [List.all_cons, List.any_cons] at hall hany
    have C : ∀ h', Below h.len h h' → h.len ≤ h'.len → Below h0.len h0 h' ∧ h0.len ≤ h'.len := fun h' b hl' => ⟨fun b' y hb e => b b' y (by omega) (B b' y hb e), by omega⟩
    have inner : ∀ m2 : Bool, (m2 || (l.drop (i + 1)).any fun p => decide (4 < p.length)) = (m0 || l.any fun p => decide (4 < p.length)) → Q (iterK m (fun nx4 (σ : List Value) h => f12j7 (run (n + 1)) m nx nx4 t0 (.bool m2) (σ.headD undef) v (.int .i64 (l.length : Nat)) (.int .i64 i) w (.int .i64 (l[i].length : Nat)) (σ.tail.headD undef) h) [.bool b, .int .i64 (0 : Nat)] h) := by
      intro m2 hm2'
      refine hright_prog I e3 hpl n m nx t0 (.bool m2) (.bool b) v (.int .i64 (l.length : Nat)) (.int .i64 i) b Q ?_ m (hm2 _ (List.getElem_mem hlt))
      intro h' b1 b2
      obtain ⟨B1, hle1⟩ := C h' b1 b2
      simp only [f12j6, bindR_ret, pureR_some, intB_inc' (n := i) (by omega)]
      exact ih (k - 1) _ _ (by omega) ⟨B1, hle1, i + 1, _, _, by omega, rfl, hm2', by rw [← hall, Bool.and_assoc]⟩
    simp only [f12j4, intB_lss, hc, bindR_ret, pureR_some, ifR_true, f12j5, e1, e2]
    have eL := e3.len (h := h)
    cases m1 with
    | true =>
      simp only [gd_ft, bindR_ret, pickV_t, pureR_some, eL]
      exact inner true (by rw [← hany]; simp)
    | false =>
      simp only [gd_ff, bindR_ret, eL, intB_gtr, pureR_some, pickV_f]
      refine inner _ ?_
      rw [← hany, Bool.false_or]
      congr 1
      rw [Bool.eq_iff_iff]
      simp only [decide_eq_true_eq]
      omega
  · have hd : l.drop i = [] := List.drop_eq_nil_of_le (by omega)
    have hc : decide ((i : Int) < (l.length : Nat)) = false := by simp; omega
    rw [hd] at hall hany
    simp only [List.all_nil, List.any_nil, Bool.and_true, Bool.or_false] at hall hany
    simp only [f12j4, intB_lss, hc, bindR_ret, pureR_some, ifR_false, cond_beq, hall, hany]
    exact good h B hle

/-- The reference says what Run says. -/
theorem hright_ok {h0 : Heap} (I0 : InpOk inp h0) {algo : Int} {v1 v2 v3 : Value} {start order : List Int} {progs : List (List (Int × Int))} (A1 : IntsAt inp v1 start) (A2 : RowsAt inp v2 progs) (A3 : IntsAt inp v3 order)
    (hs : start.length < 9223372036854775808) (hl : progs.length < 9223372036854775808) (hp : ∀ p ∈ progs, p.length < 9223372036854775808) (n : Nat) (hn1 : start.length < n + 1) (hn2 : progs.length < n + 1) (hn3 : ∀ p ∈ progs, p.length < n + 1) :
    ∃ h', run (n + 2) 12 [.int .i64 algo, v1, v2, v3] h0 = some (.ret (.int .i64 (rightE algo start progs order)) h') ∧ Below h0.len h0 h' ∧ h0.len ≤ h'.len := by
  rw [run, callR_succ, eq12]
  obtain ⟨mn, hmn⟩ : ∃ mn : Bool, mn = (decide (4 < progs.length) || decide (500 < order.length)) := ⟨_, rfl⟩
  have many : ∀ X : Value → Heap → Res, (bindR (gd false (.bool (decide (((progs.length : Nat) : Int) > 4))) (some (.ret v3 h0)) h0) fun t22 h6 =>
      bindR (gd false (.bool (decide (((progs.length : Nat) : Int) > 4))) (lenRS h6 t22) h6) fun t23 h7 =>
      bindR (gd false (.bool (decide (((progs.length : Nat) : Int) > 4))) (pureR (intB .gtr t23 (.int .i64 500)) h7) h7) fun t24 h8 =>
      bindR (pureR (pickV (.bool (decide (((progs.length : Nat) : Int) > 4))) (.bool true) t24) h8) fun t25 h10 => X t25 h10) = X (.bool mn) h0 := by
    intro X
    by_cases h4 : 4 < progs.length
    · have hc : decide (((progs.length : Nat) : Int) > 4) = true := by simp; omega
      have : mn = true := by rw [hmn]; simp [h4]
      simp only [hc, gd_ft, bindR_ret, pickV_t, pureR_some, this]
    · have hc : decide (((progs.length : Nat) : Int) > 4) = false := by simp; omega
      have : mn = decide (((order.length : Nat) : Int) > 500) := by rw [hmn, Bool.eq_iff_iff]; simp; omega
      simp only [hc, gd_ff, bindR_ret, A3.len, intB_gtr, pickV_f, pureR_some, this]
  have ek := hright_keys I0 (t0 := .int .i64 algo) (t2 := v2) (t9 := .bool mn) A1 hs n (n + 1) (n + 1) hn1
  obtain ⟨Q, hQ⟩ : ∃ Q : Res → Prop, Q = fun r => ∃ h', r = some (.ret (.int .i64 (rightE algo start progs order)) h') ∧ Below h0.len h0 h' ∧ h0.len ≤ h'.len := ⟨_, rfl⟩
  suffices H : Q (f12 (run (n + 1)) (n + 1) (.int .i64 algo) v1 v2 v3 h0) by rw [hQ] at H; exact H
  have e0 : ((0 : Nat) : Int) = 0 := rfl
  rw [e0] at ek
  have red : f12 (run (n + 1)) (n + 1) (.int .i64 algo) v1 v2 v3 h0 = f12j1 (run (n + 1)) (n + 1) (.int .i64 algo) v2 (.bool mn) (.bool (ascB none start)) h0 := by
    rw [← ek]
    simp only [f12, bindR_ret, A2.len, intB_gtr, pureR_some, many, A1.len]
  rw [red]
  refine hright_progs I0 A2 hl hp n (n + 1) hn2 hn3 mn _ Q ?_
  intro h' B hle
  have w := between_ok algo 1 4 n h'
  rw [hQ]
  have hr : rightE algo start progs order = if inside algo 1 4 = false then 1 else if (mn || progs.any fun p => decide (4 < p.length)) = true then 2 else if (ascB none start && progs.all fun p => p.all deedB) = false then 3 else 0 := by
    unfold rightE
    have e1 : (progs.any fun p => decide (4 < p.length)) = !(progs.all fun p => decide (p.length ≤ 4)) := by
      rw [List.not_all_eq_any_not]
      congr 1; funext p; rw [Bool.eq_iff_iff]; simp
    rw [e1, hmn]
    by_cases h4 : 4 < progs.length <;> by_cases h5 : 500 < order.length <;> cases (inside algo 1 4) <;> cases (progs.all fun p => decide (p.length ≤ 4)) <;> cases (ascB none start) <;> cases (progs.all fun p => p.all deedB) <;> simp [h4, h5]
  rw [hr]
  simp only [f12j2, bindR_ret, w, unV_not, pureR_some]
  cases inside algo 1 4 with
  | false => exact ⟨h', by simp only [Bool.not_false, ifR_true, bindR_ret, clean, cond_true, Option.bind_some, tup, if_true], B, hle⟩
  | true =>
    simp only [Bool.not_true, ifR_false, bindR_ret]
    cases (mn || progs.any fun p => decide (4 < p.length)) with
    | true => exact ⟨h', by simp only [ifR_true, bindR_ret, clean, cond_true, Option.bind_some, tup, if_true, Bool.true_eq_false, if_false], B, hle⟩
    | false =>
      simp only [ifR_false, bindR_ret, unV_not, pureR_some]
      cases (ascB none start && progs.all fun p => p.all deedB) with
      | false => exact ⟨h', by simp only [Bool.not_false, ifR_true, bindR_ret, clean, cond_true, Option.bind_some, tup, if_true, Bool.true_eq_false, Bool.false_eq_true, if_false], B, hle⟩
      | true => exact ⟨h', by simp only [Bool.not_true, ifR_false, f12j3, bindR_ret, clean, cond_true, Option.bind_some, tup, Bool.true_eq_false, Bool.false_eq_true, if_false], B, hle⟩
end
end Go.Ha

namespace Go.Ha
open Go.AM Go.Proofs.YtejokpfeepbfeaaAm

/-- A row of the call's own that was there, though empty, from the first. -/
def Row2 (base : Nat) (h : Heap) (v : Value) (cs : List Value) : Prop :=
  ∃ b, base ≤ b ∧ v = .slice (some ⟨b, 0, none⟩) cs.length cs.length ∧ ∃ k, (k = 0 ∨ k = 1) ∧ h.bs[b]? = some (.cells cs k false)

theorem Row2.ext {base : Nat} {h h' : Heap} {v : Value} {cs : List Value} (R : Row2 base h v cs) (hk : ∀ (b : Nat) (y : Blk), h.bs[b]? = some y → h'.bs[b]? = some y) : Row2 base h' v cs := by
  obtain ⟨b, h1, h2, k, h3, h4⟩ := R
  exact ⟨b, h1, h2, k, h3, hk _ _ h4⟩

theorem Row2.ints {base : Nat} {h : Heap} {v : Value} {l : List Int} (R : Row2 base h v (l.map intV64)) : IntsAt (inpOf h) v l := by
  obtain ⟨b, h1, h2, k, h3, h4⟩ := R
  refine .inr ⟨b, 0, (l.map intV64).length, l.map intV64, by rw [h2, List.length_map], ?_, ?_⟩
  · show (h.bs[b]?).bind rowOf = _; rw [h4]; rfl
  · intro i x hx
    rw [Nat.zero_add, Nat.mul_one, List.getElem?_map, hx]; rfl

theorem app2 {base m : Nat} {h : Heap} {v x : Value} {cs new : List Value} (R : Row2 base h v cs) (hb : base ≤ h.len) (hl : lenOf x = some m) (he : elemsOf h 1 m x = some new) (hc : cellsOk new = true)
    (hn : new.length = m) (h1 : cs.length + m ≤ 100000) :
    ∃ v' h', appR 1 8 h v x = some (.ret v' h') ∧ Row2 base h' v' (cs ++ new) ∧ Below base h h' ∧ h.len ≤ h'.len := by
  obtain ⟨b, g1, rfl, k, g3, g4⟩ := R
  have hlen := lt_len g4
  by_cases hm : m = 0
  · subst hm
    have hnew : new = [] := List.eq_nil_of_length_eq_zero hn
    subst hnew
    have e : Nat.ble cs.length cs.length = true := by simp
    refine ⟨.slice (some ⟨b, 0, none⟩) cs.length cs.length, h, ?_, ?_, .refl _ _, Nat.le_refl _⟩
    · simp only [appR, hl, he, Option.bind_some, Nat.add_zero, e, cond_true]
    · rw [List.append_nil]; exact ⟨b, g1, rfl, k, g3, g4⟩
  · have hlt : Nat.ble (cs.length + m) cs.length = false := by rw [← Bool.not_eq_true, Nat.ble_eq]; omega
    have b1 : Nat.ble ((cs.length + m) * 8) 70368744177664 = true := by rw [Nat.ble_eq]; omega
    have b2 : Nat.ble (cs.length + m) 70368744177664 = true := by rw [Nat.ble_eq]; omega
    have b3 : Nat.ble 1 1 = true := rfl
    have b4 : Nat.beq new.length (m * 1) = true := by rw [Nat.beq_eq]; omega
    have k6 : elemsOf h 1 cs.length (.slice (some ⟨b, 0, none⟩) cs.length cs.length) = some cs := elems_row g4 (by omega)
    have k7 : Nat.ble (0 + cs.length * 1) cs.length = true := by rw [Nat.ble_eq]; omega
    have k8 : roomOf h 1 cs.length (some ⟨b, 0, none⟩) = some false := by
      simp only [roomOf, g4, k7, Bool.and_true]
      rcases g3 with rfl | rfl <;> simp
    refine ⟨.slice (some ⟨h.len, 0, none⟩) (cs.length + m) (cs.length + m), (h.upd b .dead).push (.cells (cs ++ new) 1 false), ?_, ⟨h.len, hb, by rw [List.length_append, hn], 1, .inr rfl, ?_⟩, ?_, by simp [Heap.len, Heap.push, Heap.upd]⟩
    · simp only [appR, hl, he, Option.bind_some, hlt, cond_false, b1, b2, b3, b4, hc, Bool.and_true, cond_true, k6, k8, Heap.kill, g4]
    · have : (h.upd b .dead).len = h.len := by simp [Heap.len, Heap.upd]
      rw [← this]; exact push_new
    · intro i y hi e
      exact push_old (by rw [upd_ne (by omega)]; exact e)

theorem ints_ok (l : List Int) : cellsOk (l.map intV64) = true := by
  unfold cellsOk; rw [List.all_eq_true]; intro v hv; obtain ⟨x, _, rfl⟩ := List.mem_map.1 hv; rfl

theorem elems_keep {h h' : Heap} (hk : ∀ (b : Nat) (y : Blk), h.bs[b]? = some y → h'.bs[b]? = some y) {size n : Nat} {v : Value} {l : List Value} (e : elemsOf h size n v = some l) : elemsOf h' size n v = some l := by
  unfold elemsOf at e ⊢
  split at e
  · rename_i b o' len _
    cases hc : Nat.ble n len with
    | false => rw [hc] at e; simp at e
    | true =>
      rw [hc] at e
      simp only [cond_true, Option.bind_eq_some_iff] at e ⊢
      obtain ⟨c, hcc, e⟩ := e
      refine ⟨c, ?_, e⟩
      unfold Heap.row at hcc ⊢
      cases hb : h.bs[b]? with
      | none => rw [hb] at hcc; simp at hcc
      | some y => rw [hk _ _ hb]; rw [hb] at hcc; exact hcc
  all_goals exact e

section
variable {h0 : Heap} {v3 : Value} {order : List Int} {who : Int} {o : Nat}

/-- The loop that adds 200 steps. -/
theorem free_row (E3 : elemsOf h0 1 order.length v3 = some (order.map intV64)) (A3 : IntsAt (inpOf h0) v3 order) (hl : order.length ≤ 60) (ho : 1 - who = (o : Int)) (ho2 : o < 2) (cr : FuncId → List Value → Heap → Res) (n : Nat) (hn : 200 < n) (t0 t1 : Value) (Q : Res → Prop)
    (cont : ∀ v h, IntsAt (inpOf h) v (order ++ List.replicate 200 (o : Int)) → Below h0.len h0 h → h0.len ≤ h.len → Q (f6j2 cr n t0 t1 (.int .i64 who) v h)) :
    Q (f6j1 cr n t0 t1 v3 (.int .i64 who) h0) := by
  obtain ⟨h1, d1⟩ : ∃ h1, h1 = h0.push (.cells [] 0 false) := ⟨_, rfl⟩
  have e1 : buildSliceR 0 [(.int .i64 0)] h0 [] = some (.ret (.slice (some ⟨h0.len, 0, none⟩) 0 0) h1) := by rw [d1]; exact Eq.trans rfl rfl
  have c1 : h1.bs[h0.len]? = some (.cells [] 0 false) := by rw [d1]; exact push_new
  have l1 : h1.len = h0.len + 1 := by rw [d1, push_len]
  have R1 : Row2 h0.len h1 (.slice (some ⟨h0.len, 0, none⟩) 0 0) [] := ⟨h0.len, Nat.le_refl _, rfl, 0, .inl rfl, c1⟩
  have k1 : ∀ (b : Nat) (y : Blk), h0.bs[b]? = some y → h1.bs[b]? = some y := fun b y e => by rw [d1]; exact push_old e
  have E1 : elemsOf h1 1 order.length v3 = some (order.map intV64) := by
    exact elems_keep k1 E3
  have L3 : lenOf v3 = some order.length := by
    rcases A3 with ⟨rfl, b, c, rfl⟩ | ⟨b, o', c, r, rfl, _⟩ <;> rfl
  obtain ⟨v2, h2, a1, R2, B2, le2⟩ := app2 R1 (by omega) L3 E1 (ints_ok _) (List.length_map _) (by simp; omega)
  simp only [List.nil_append] at R2
  simp only [f6j1, e1, bindR_ret, a1]
  refine iterK_rule (σ := List Value) _ (fun k s h => ∃ (i : Nat) (v : Value), i + k = 200 ∧ s = [v, .int .i64 i] ∧ Row2 h0.len h v ((order ++ List.replicate i (o : Int)).map intV64) ∧ Below h0.len h0 h ∧ h0.len ≤ h.len) Q ?_ n 200 _ h2 hn
    ⟨0, v2, rfl, rfl, by simpa using R2, fun b y hb e => B2 b y hb (k1 b y e), by omega⟩
  rintro k nx s h ⟨i, v, hi, rfl, R, B, le⟩ ih
  simp only [List.headD_cons, List.tail_cons]
  by_cases hlt : i < 200
  · have hc : decide ((i : Int) < 200) = true := by simp; omega
    have sub : intB .sub (.int .i64 1) (.int .i64 who) = some (.int .i64 (o : Int)) := by
      have : IntKind.i64.wrap (1 - who) = o := by rw [ho]; exact wrap_in (by omega)
      simp [intB, isShift, intV, this]
    obtain ⟨hb, db⟩ : ∃ hb, hb = h.push (.cells [.int .i64 (o : Int)] 0 false) := ⟨_, rfl⟩
    have e2 : buildSliceR 1 [(.int .i64 0)] h [(0, 1, .int .i64 (o : Int))] = some (.ret (.slice (some ⟨h.len, 0, none⟩) 1 1) hb) := by rw [db]; exact build_int h _
    have lb : hb.len = h.len + 1 := by rw [db, push_len]
    have Rb := R.ext (h' := hb) fun b y e => by rw [db]; exact push_old e
    obtain ⟨v', h', a2, R', B', le'⟩ := app2 (x := .slice (some ⟨h.len, 0, none⟩) 1 1) (new := [.int .i64 (o : Int)]) (m := 1) Rb (by omega) rfl (elems_row (by rw [db]; exact push_new) rfl) rfl rfl (by simp; omega)
    simp only [f6j8, intB_lss, hc, bindR_ret, pureR_some, ifR_true, f6j9, sub, e2, a2, f6j10, intB_inc' (n := i) (by omega)]
    refine ih (k - 1) _ _ (by omega) ⟨i + 1, v', by omega, rfl, ?_, fun b y hb' e => B' b y hb' (by rw [db]; exact push_old (B b y hb' e)), by omega⟩
    have : (order ++ List.replicate (i + 1) (o : Int)).map intV64 = (order ++ List.replicate i (o : Int)).map intV64 ++ [.int .i64 (o : Int)] := by
      rw [List.replicate_succ', ← List.append_assoc, List.map_append]; rfl
    rw [this]; exact R'
  · have hc : decide ((i : Int) < 200) = false := by simp; omega
    have hi200 : i = 200 := by omega
    subst hi200
    simp only [f6j8, intB_lss, hc, bindR_ret, pureR_some, ifR_false, cond_beq]
    exact cont v h (Row2.ints R) B le
end
end Go.Ha

namespace Go.Ha
open Go.AM Go.Proofs.YtejokpfeepbfeaaAm

section
variable {h : Heap} {v1 v2 v3 : Value} {start order : List Int} {progs : List (List (Int × Int))} {who : Int} {o : Nat}

/-- The loop over what was done. -/
theorem free_tally {h0 : Heap} {w1 w2 v9 : Value} {all : List Int} (A9 : IntsAt (inpOf h0) v9 all) {done : List Dn} (hd : ∀ d ∈ done, (d.who : Int) ≠ who → ∃ f : Nat, d.fin = f ∧ f < all.length) (hl : done.length < 1000000)
    {t : Nat} (ht : h0.bs[t]? = some (.cells [w1, w2] 0 false)) (D : DonesAt h0 w1 done) (cr : FuncId → List Value → Heap → Res) (n : Nat) (hn : done.length < n) :
    ∃ h', f6j3 cr n (.int .i64 who) v9 (pt t) h0 = some (.ret (.bool true) h') := by
  have htl := lt_len ht
  have e0 : ldR h0 (.pointer (some ⟨t, 0 + 0, none⟩)) = some (.ret w1 h0) := ldR_cells ht rfl
  simp only [f6j3, bindR_ret, pt, padd_q, pureR_some, e0, D.len]
  refine iterK_rule (σ := List Value) _ (fun k s h => ∃ (i : Nat), i + k = done.length ∧ s = [.int .i64 i] ∧ Below h0.len h0 h)
    (fun r => ∃ h', r = some (.ret (.bool true) h')) ?_ n done.length _ _ hn ⟨0, by omega, rfl, .refl _ _⟩
  rintro k nx s h ⟨i, hi, rfl, B⟩ ih
  simp only [List.headD_cons]
  by_cases hlt : i < done.length
  · have hx : done[i]? = some done[i] := List.getElem?_eq_getElem hlt
    obtain ⟨x, e1, e2, _, _⟩ := (D.ext (h' := h) fun b y e => B b y (lt_len e) e).get hx
    obtain ⟨h1, d1⟩ : ∃ h1, h1 = h.push (.cells (dnC done[i]) 0 false) := ⟨_, rfl⟩
    obtain ⟨p1, p2⟩ := put5 h done[i]
    rw [← d1] at p2
    have c1 : h1.bs[h.len]? = some (.cells (dnC done[i]) 0 false) := by rw [d1]; exact push_new
    have B1 : Below h0.len h0 h1 := by rw [d1]; exact B.trans (.push _ _)
    have r0 : ldR h1 (.pointer (some ⟨h.len, 0 + 0, none⟩)) = some (.ret (.int .i64 done[i].who) h1) := ldR_cells c1 rfl
    have r3 : ldR h1 (.pointer (some ⟨h.len, 0 + 3, none⟩)) = some (.ret (.int .i64 done[i].fin) h1) := ldR_cells c1 rfl
    have hc : decide ((i : Int) < (done.length : Nat)) = true := by simp; exact hlt
    have A1 := (A9.mono (inp' := inpOf h1) fun b y e => B1 b y (lt_len e) e).len (h := h1)
    have gsk : ∀ w r h, gd w skipV r h = some (.ret skipV h) := fun w r h => gd_skip w r h
    have next : ∃ h', f6j7 cr n nx (.int .i64 who) v9 w1 (.int .i64 (done.length : Nat)) (.int .i64 i) h1 = some (.ret (.bool true) h') := by
      simp only [f6j7, bindR_ret, pureR_some, intB_inc' (n := i) (by omega)]
      exact ih (k - 1) _ _ (by omega) ⟨i + 1, by omega, rfl, B1⟩
    simp only [pt] at p1 p2
    simp only [f6j5, intB_lss, hc, bindR_ret, pureR_some, ifR_true, f6j6, e1, e2, p1, p2, padd_q, r0, intB_neq]
    by_cases hw : (done[i].who : Int) = who
    · have hw' : ((done[i].who : Int) != who) = false := by simp [hw]
      simp only [hw', gd_tf, gsk, bindR_ret, pickV_f, pureR_some, ifR_false]
      exact next
    · have hw' : ((done[i].who : Int) != who) = true := by simp [hw]
      obtain ⟨f, f1, f2⟩ := hd _ (List.getElem_mem hlt) hw
      have u1 : decide (done[i].fin < 0) = false := by rw [f1]; simp
      have u2 : decide (done[i].fin ≥ ((all.length : Nat) : Int)) = false := by rw [f1]; simp; omega
      simp only [hw', gd_tt, bindR_ret, r3, intB_lss, u1, pureR_some, gd_ff, padd_q, A1, intB_geq, u2, pickV_f, pickV_t, ifR_false]
      exact next
  · have hc : decide ((i : Int) < (done.length : Nat)) = false := by simp; omega
    exact ⟨h, by simp only [f6j5, intB_lss, hc, bindR_ret, pureR_some, ifR_false, cond_beq, f6j4, clean, cond_true, Option.bind_some, tup]⟩

theorem hfree_ok (A1 : IntsAt (inpOf h) v1 start) (A2 : RowsAt (inpOf h) v2 progs) (A3 : IntsAt (inpOf h) v3 order) (E3 : progs.length = 2 → elemsOf h 1 order.length v3 = some (order.map intV64)) (hs : start.length < 9223372036854775808)
    (hl : progs.length < 9223372036854775808) (hp : ∀ p ∈ progs, p.length < 9223372036854775808) (n : Nat) (hn : 30000 < n) (hn1 : start.length < n) (hn2 : progs.length < n) (hn3 : ∀ p ∈ progs, p.length < n) :
    ∃ h', run (n + 7) 6 [v1, v2, v3, .int .i64 who] h = some (.ret (.bool true) h') := by
  rw [run, callR_succ, eq6]
  obtain ⟨h1, r1, B1, le1⟩ := lives_ok h n (by omega)
  have k1 : ∀ (b : Nat) (y : Blk), h.bs[b]? = some y → h1.bs[b]? = some y := fun b y e => B1 b y (lt_len e) e
  obtain ⟨h2, r2, B2, le2⟩ := hright_ok (inp := inpOf h1) (fun b y e => e) (algo := 3) (A1.mono k1) (A2.mono k1) (A3.mono k1) hs hl hp (n + 4) (by omega) (by omega) (fun p hp => by have := hn3 p hp; omega)
  have k2 : ∀ (b : Nat) (y : Blk), h.bs[b]? = some y → h2.bs[b]? = some y := fun b y e => B2 b y (lt_len (k1 b y e)) (k1 b y e)
  obtain ⟨h3, r3, B3, le3⟩ := lives_ok h2 n (by omega)
  have A2' := (A2.mono (inp' := inpOf h2) k2)
  have A3' := (A3.mono (inp' := inpOf h2) k2)
  have L2 := A2'.len (h := h2)
  have L3 := A3'.len (h := h2)
  have gsk : ∀ w r h, gd w skipV r h = some (.ret skipV h) := fun w r h => gd_skip w r h
  simp only [run] at r1 r2 r3
  by_cases hr : rightE 3 start progs order = 0
  · have c1 : (rightE 3 start progs order != 0) = false := by simp [hr]
    by_cases hp2 : progs.length = 2
    · have c2 : (((progs.length : Nat) : Int) != 2) = false := by simp [hp2]
      by_cases hw0 : who < 0
      · have c3 : decide (who < 0) = true := by simp [hw0]
        exact ⟨h3, by simp only [f6, bindR_ret, r1, unV_not, pureR_some, Bool.not_true, gd_ff, gd_ft, r2, intB_neq, c1, pickV_f, pickV_t, L2, c2, intB_lss, c3, ifR_true, r3, clean, cond_true, Option.bind_some, tup]⟩
      · have c3 : decide (who < 0) = false := by simp; omega
        by_cases hw1 : who > 1
        · have c4 : decide (who > 1) = true := by simp; omega
          exact ⟨h3, by simp only [f6, bindR_ret, r1, unV_not, pureR_some, Bool.not_true, gd_ff, gd_ft, r2, intB_neq, c1, pickV_f, pickV_t, L2, c2, intB_lss, c3, intB_gtr, c4, ifR_true, r3, clean, cond_true, Option.bind_some, tup]⟩
        · have c4 : decide (who > 1) = false := by simp; omega
          by_cases h60 : order.length > 60
          · have c5 : decide (((order.length : Nat) : Int) > 60) = true := by simp; omega
            exact ⟨h3, by simp only [f6, bindR_ret, r1, unV_not, pureR_some, Bool.not_true, gd_ff, gd_ft, r2, intB_neq, c1, pickV_f, pickV_t, L2, L3, c2, intB_lss, c3, intB_gtr, c4, c5, ifR_true, r3, clean, cond_true, Option.bind_some, tup]⟩
          · have c5 : decide (((order.length : Nat) : Int) > 60) = false := by simp; omega
            obtain ⟨o, ho⟩ : ∃ o : Nat, 1 - who = (o : Int) := ⟨(1 - who).toNat, by omega⟩
            have ho2 : o < 2 := by omega
            have red : f6 (callR Go.Proofs.Try.prog cfg (n + 6)) (n + 6) v1 v2 v3 (.int .i64 who) h = f6j1 (run (n + 6)) (n + 6) v1 v2 v3 (.int .i64 who) h2 := by
              simp only [run]
              simp only [f6, bindR_ret, r1, unV_not, pureR_some, Bool.not_true, gd_ff, r2, intB_neq, c1, pickV_f, L2, L3, c2, intB_lss, c3, intB_gtr, c4, c5, ifR_false]
            rw [red]
            have E2 : elemsOf h2 1 order.length v3 = some (order.map intV64) := elems_keep k2 (E3 hp2)
            obtain ⟨Q, hQ⟩ : ∃ Q : Res → Prop, Q = fun r => ∃ h', r = some (.ret (.bool true) h') := ⟨_, rfl⟩
            suffices H : Q (f6j1 (run (n + 6)) (n + 6) v1 v2 v3 (.int .i64 who) h2) by rw [hQ] at H; exact H
            refine free_row E2 A3' (by omega) ho ho2 (run (n + 6)) (n + 6) (by omega) v1 v2 Q ?_
            intro v9 h4 A9 B4 le4
            obtain ⟨all, hall⟩ : ∃ all, all = order ++ List.replicate 200 (o : Int) := ⟨_, rfl⟩
            rw [← hall] at A9
            have k4 : ∀ (b : Nat) (y : Blk), h.bs[b]? = some y → h4.bs[b]? = some y := fun b y e => B4 b y (lt_len (k2 b y e)) (k2 b y e)
            have hr2 : rightE 3 start progs all = 0 := by rw [hall]; exact free_right hr (by omega) _ (by rw [List.length_replicate]; omega)
            have W := whole hr2 (by decide)
            have hfree := free_done hr (by omega) (o := o) (by omega)
            rw [← hall] at hfree
            have hal : all.length = order.length + 200 := by rw [hall, List.length_append, List.length_replicate]
            obtain ⟨h5, w1, w2, r5, g1, g2, B5, le5⟩ := run_ok (A1.mono k4) (A2.mono k4) A9 hr2 (n + 1) (by omega)
            obtain ⟨x1, x2, x3, hw1⟩ := g1.cell
            obtain ⟨y1, y2, y3, hw2⟩ := g2.cell
            obtain ⟨h6, d6⟩ : ∃ h6, h6 = h5.push (.cells [.slice none 0 0, .slice none 0 0] 0 false) := ⟨_, rfl⟩
            have e8 : newR h5 [(.slice none 0 0), (.slice none 0 0)] = some (.ret (pt h5.len) h6) := by rw [d6]; exact Eq.trans rfl rfl
            have c7 : h6.bs[h5.len]? = some (.cells [.slice none 0 0, .slice none 0 0] 0 false) := by rw [d6]; exact push_new
            have e9 := stNR_row (x := w1) (y := w2) c7 (by rw [hw1, hw2]; rfl)
            obtain ⟨h7, d7⟩ : ∃ h7, h7 = h6.upd h5.len (.cells [w1, w2] 0 false) := ⟨_, rfl⟩
            rw [← d7] at e9
            have c8 : h7.bs[h5.len]? = some (.cells [w1, w2] 0 false) := by rw [d7]; exact upd_eq c7
            have k7 : ∀ (b : Nat) (y : Blk), h5.bs[b]? = some y → h7.bs[b]? = some y := fun b y e => by
              have := lt_len e
              rw [d7, upd_ne (by omega), d6]; exact push_old e
            have A9' : IntsAt (inpOf h7) v9 all := A9.mono fun b y e => k7 b y (B5 b y (lt_len e) e)
            have D7 := (g1.dones).ext k7
            have hdl := done_len W hr2
            obtain ⟨h8, r8⟩ := free_tally (who := who) A9' (done := doneL (runS 3 start progs all)) (fun d hd hne => by
              obtain ⟨a, _, _⟩ := doneS_who W d hd
              obtain ⟨f, f1, f2⟩ := hfree d hd (by omega)
              exact ⟨f, f1, by omega⟩) (by omega) c8 D7 (run (n + 6)) (n + 6) (by omega)
            have q1 : extr 0 (.tuple #[.agg #[w1, w2], .int .i64 0]) = some (.agg #[w1, w2]) := rfl
            have q2 : extr 1 (.tuple #[.agg #[w1, w2], .int .i64 0]) = some (.int .i64 0) := rfl
            have q3 : ((0 : Int) != 0) = false := rfl
            rw [hQ]
            refine ⟨h8, ?_⟩
            simp only [run, pt] at r5 e8 e9 r8 ⊢
            simp only [f6j2, bindR_ret, r5, q1, q2, pureR_some, e8, e9, intB_neq, q3, ifR_false, r8]
    · have c2 : (((progs.length : Nat) : Int) != 2) = true := by simp; omega
      exact ⟨h3, by simp only [f6, bindR_ret, r1, unV_not, pureR_some, Bool.not_true, gd_ff, gd_ft, r2, intB_neq, c1, pickV_f, pickV_t, L2, c2, ifR_true, r3, clean, cond_true, Option.bind_some, tup]⟩
  · have c1 : (rightE 3 start progs order != 0) = true := by simp [hr]
    exact ⟨h3, by simp only [f6, bindR_ret, r1, unV_not, pureR_some, Bool.not_true, gd_ff, gd_ft, r2, intB_neq, c1, pickV_f, pickV_t, ifR_true, r3, clean, cond_true, Option.bind_some, tup]⟩
end
end Go.Ha

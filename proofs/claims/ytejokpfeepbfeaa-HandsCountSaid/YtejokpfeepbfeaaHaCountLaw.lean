/-
  Hands: the law HandsCount returns true: the whole.
-/
import Derived.Test.YtejokpfeepbfeaaHaCount
set_option linter.unusedSimpArgs false
set_option linter.unusedVariables false
set_option linter.unnecessarySimpa false
namespace Go.Ha
open Go.AM Go.Proofs.YtejokpfeepbfeaaAm

section
variable {inp : Inp}

/-- The loop over what is left. -/
theorem tally3 {h0 : Heap} {w1 w2 : Value} {l : List Int} (A : IntsAt (inpOf h0) w2 l) (hp : l.Pairwise (· < ·)) (hr : ∀ x ∈ l, 0 ≤ x ∧ x ≤ 9) (hl : l.length ≤ 100) {b t : Nat} (hbl : h0.len ≤ b) (htl : t < h0.len)
    (ht : h0.bs[t]? = some (.cells [w1, w2] 0 false)) {f0 : Nat → Int} (hf0 : small f0 300)
    {hb : Heap} (B0 : Below h0.len h0 hb) (hlb : b < hb.len) (hb0 : hb.bs[b]? = some (.cells (arr f0) 0 false)) (hz : ∀ k : Nat, k < 10 → l.foldl dec' f0 k = 0) (cr : FuncId → List Value → Heap → Res) (m : Nat) (hm : l.length < m) :
    ∃ h', f4j3 cr m (pt t) (pt b) hb = some (.ret (.bool true) h') ∧ Below h0.len h0 h' := by
  have e0 : ldR hb (.pointer (some ⟨t, 1, none⟩)) = some (.ret w2 hb) := ldR_cells (B0 t _ htl ht) rfl
  simp only [f4j3, bindR_ret, pt, padd_q, pureR_some, Nat.zero_add, e0, A.len]
  refine iterK_rule (σ := List Value) _ (fun k s h => ∃ (i : Nat) (f : Nat → Int) (last : Int), i + k = l.length ∧ s = [.int .i64 last, .int .i64 i] ∧ Below h0.len h0 h ∧ b < h.len ∧ h.bs[b]? = some (.cells (arr f) 0 false) ∧ small f (300 + i) ∧ (l.drop i).foldl dec' f = l.foldl dec' f0 ∧ (∀ x ∈ l.drop i, last < x))
    (fun r => ∃ h', r = some (.ret (.bool true) h') ∧ Below h0.len h0 h') ?_ m l.length _ _ hm ⟨0, f0, -1, by omega, rfl, B0, hlb, hb0, hf0, rfl, fun x hx => by have := hr x (by simpa using hx); omega⟩
  rintro k nx s h ⟨i, f, last, hi, rfl, B, hbl', hbb, hsm, hf, hlast⟩ ih
  simp only [List.headD_cons, List.tail_cons]
  by_cases hlt : i < l.length
  · have hx : l[i]? = some l[i] := List.getElem?_eq_getElem hlt
    obtain ⟨a, e1, e2⟩ := A.get (h := h) (fun x y e => B x y (lt_len e) e) hx
    have hc : decide ((i : Int) < (l.length : Nat)) = true := by simp; exact hlt
    have hd := List.drop_eq_getElem_cons hlt
    rw [hd] at hf hlast
    have hf : (l.drop (i + 1)).foldl dec' (dec' f l[i]) = l.foldl dec' f0 := hf
    have hxr := hr _ (List.getElem_mem hlt)
    have h1 := hlast l[i] List.mem_cons_self
    have c1 : decide (l[i] ≤ last) = false := by simp; omega
    have c2 : decide (l[i] > 9) = false := by simp; omega
    have hsb := hsm l[i].toNat
    have st := arr_st hbb hxr (f l[i].toNat - 1)
    have ia := idxA_10 (b := b) hxr
    have al := arr_ld hbb hxr
    simp only [pt] at ia
    simp only [f4j5, intB_lss, hc, bindR_ret, pureR_some, ifR_true, f4j6, e1, e2, intB_leq, c1, gd_ff, intB_gtr, c2, pickV_f, ifR_false, f4j8]
    simp only [ia, bindR_ret, pureR_some, al, int_sub1 (x := f l[i].toNat) (by omega), st, f4j7, intB_inc' (n := i) (by omega)]
    refine ih (k - 1) _ _ (by omega) ⟨i + 1, dec' f l[i], l[i], by omega, rfl, ?_, by rw [upd_len]; exact hbl', upd_eq hbb, small_dec hsm _, hf, ?_⟩
    · intro x y hxl e
      rw [upd_ne (by omega)]; exact B x y hxl e
    · have := (List.pairwise_iff_getElem.1 hp)
      intro x hx
      obtain ⟨j, hj⟩ := List.getElem?_of_mem hx
      rw [List.getElem?_drop] at hj
      have hjl := (List.getElem?_eq_some_iff.1 hj).1
      have e := (List.getElem?_eq_some_iff.1 hj).2
      rw [← e]
      exact this i (i + 1 + j) hlt hjl (by omega)
  · have hd : l.drop i = [] := List.drop_eq_nil_of_le (by omega)
    have hc : decide ((i : Int) < (l.length : Nat)) = false := by simp; omega
    rw [hd] at hf
    have hf : f = l.foldl dec' f0 := hf
    have hz' : arr f = arr fun _ => 0 := by
      unfold arr
      apply List.map_congr_left
      intro k hk
      rw [hf, hz k (List.mem_range.1 hk)]
    have e5 : ldNR h 10 (.pointer (some ⟨b, 0, none⟩)) = some (.ret (.agg #[.int .i64 0, .int .i64 0, .int .i64 0, .int .i64 0, .int .i64 0, .int .i64 0, .int .i64 0, .int .i64 0, .int .i64 0, .int .i64 0]) h) := by
      rw [hz'] at hbb
      have c : cut (arr fun _ => 0) 0 10 = some (arr fun _ => 0) := Eq.trans rfl rfl
      simp only [ldNR, ldN, Heap.row, hbb, Option.bind_some, c, Option.map_some, pureR]
      exact Eq.trans rfl rfl
    have e6 : (fillL [(.int .i64 0), (.int .i64 0), (.int .i64 0), (.int .i64 0), (.int .i64 0), (.int .i64 0), (.int .i64 0), (.int .i64 0), (.int .i64 0), (.int .i64 0)] []).map (fun c => Value.agg c.toArray) =
      some (.agg #[.int .i64 0, .int .i64 0, .int .i64 0, .int .i64 0, .int .i64 0, .int .i64 0, .int .i64 0, .int .i64 0, .int .i64 0, .int .i64 0]) := Eq.trans rfl rfl
    have e7 : eqNeq .eql (aggE [.int .i64, .int .i64, .int .i64, .int .i64, .int .i64, .int .i64, .int .i64, .int .i64, .int .i64, .int .i64] (.agg #[.int .i64 0, .int .i64 0, .int .i64 0, .int .i64 0, .int .i64 0, .int .i64 0, .int .i64 0, .int .i64 0, .int .i64 0, .int .i64 0])
      (.agg #[.int .i64 0, .int .i64 0, .int .i64 0, .int .i64 0, .int .i64 0, .int .i64 0, .int .i64 0, .int .i64 0, .int .i64 0, .int .i64 0])) = some (.bool true) := Eq.trans rfl rfl
    refine ⟨h, ?_, B⟩
    simp only [f4j5, intB_lss, hc, bindR_ret, pureR_some, ifR_false, cond_beq, f4j4, e5, e6, e7, clean, cond_true, Option.bind_some, tup]
end

section
variable {h : Heap} {algo : Int} {v1 v2 v3 : Value} {start order : List Int} {progs : List (List (Int × Int))}

theorem kk_range (hr : rightE algo start progs order = 0) {d : Dn} (h1 : d.who < progs.length) (h2 : d.deed < (progs.getD d.who []).length) : ((kkOf progs d).1 = 1 ∨ (kkOf progs d).1 = 2 ∨ (kkOf progs d).1 = 3) ∧ 0 ≤ (kkOf progs d).2 ∧ (kkOf progs d).2 ≤ 9 := by
  obtain ⟨ra, rl, ro, rp, rs⟩ := rightE_ok hr
  have e : progs.getD d.who [] = progs[d.who] := by simp [h1]
  have hm : kkOf progs d ∈ progs[d.who] := by
    unfold kkOf
    rw [e] at h2 ⊢
    generalize progs[d.who] = l at h2
    simp [h2]
  have := (rp _ (List.getElem_mem h1)).2 _ hm
  exact ⟨this.kind, this.key⟩

theorem done_len (W : Whole algo start progs order) (hr : rightE algo start progs order = 0) : (doneL (runS algo start progs order)).length ≤ 16 := by
  obtain ⟨ra, rl, ro, rp, rs⟩ := rightE_ok hr
  have : ∀ n j, j + n ≤ progs.length → (doneFrom (runS algo start progs order) n j).length ≤ n * 4 := by
    intro n
    induction n with
    | zero => intro j _; simp [doneFrom]
    | succ n ih =>
      intro j hj
      have h1 := ih (j + 1) (by omega)
      have h2 := W.len j (by omega)
      have e : progs.getD j [] = progs[j]'(by omega) := by simp [show j < progs.length by omega]
      have h3 := (rp _ (List.getElem_mem (show j < progs.length by omega))).1
      rw [e] at h2
      simp only [doneFrom, List.length_append]; omega
  have := this progs.length 0 (by omega)
  unfold doneL; rw [W.nh]; omega

theorem left_len (W : Whole algo start progs order) : (leftL (runS algo start progs order)).length ≤ 20 := by
  unfold leftL
  split
  · simp
  · have : ∀ n i, (leftFrom (runS algo start progs order) n i).length ≤ n := by
      intro n
      induction n with
      | zero => intro i; simp [leftFrom]
      | succ n ih =>
        intro i
        unfold leftFrom
        split
        · simp
        · rename_i k _
          have := ih k
          rw [List.length_append]
          split <;> simp <;> omega
    exact this 20 _

/-- The counters end at none. -/
theorem counts_zero (hr : rightE algo start progs order = 0) (h4 : algo ≠ 4) : ∀ k : Nat, k < 10 →
    (leftL (runS algo start progs order)).foldl dec' ((doneL (runS algo start progs order)).foldl (tell1 (kkOf progs)) (start.foldl inc fun _ => 0)) k = 0 := by
  intro k hk
  have W := whole hr h4
  obtain ⟨ra, rl, ro, rp, rs⟩ := rightE_ok hr
  obtain ⟨s1, s2⟩ := ascB_get start none rs
  obtain ⟨l1, l2, l3⟩ := left_has W.sound.1.nodes W.sound.2
  have hstart : start.Pairwise (· < ·) := by
    rw [List.pairwise_iff_getElem]
    have : ∀ (d i : Nat) (hi : i + d + 1 < start.length), start[i]'(by omega) < start[i + d + 1] := by
      intro d
      induction d with
      | zero => intro i hi; exact s2 i _ _ (List.getElem?_eq_getElem (by omega)) (List.getElem?_eq_getElem hi)
      | succ d ih =>
        intro i hi
        have h1 := ih i (by omega)
        have h2 := s2 (i + d + 1) _ _ (List.getElem?_eq_getElem (by omega)) (List.getElem?_eq_getElem hi)
        exact Int.lt_trans h1 h2
    intro i j hi hj hij
    obtain ⟨d, rfl⟩ : ∃ d, j = i + d + 1 := ⟨j - i - 1, by omega⟩
    exact this d i hj
  have hs0 : ∀ x ∈ start, 0 ≤ x := fun x hx => by
    obtain ⟨i, hi⟩ := List.getElem?_of_mem hx
    exact (s1 i x hi).1
  rw [fold_dec _ _ (fun x hx => (l2 x hx).1) l1, fold_tell _ _ _ (fun d hd => by
    obtain ⟨a, b, _⟩ := doneS_who W d hd; exact (kk_range hr a b).2.1), fold_inc _ _ hs0 hstart]
  rw [count_good (k : Int) W.good, one_congr (l3 k (by omega) (by omega)), one_congr (has0 hr k (by omega))]
  omega

theorem count_ok (A1 : IntsAt (inpOf h) v1 start) (A2 : RowsAt (inpOf h) v2 progs) (A3 : IntsAt (inpOf h) v3 order) (hs : start.length < 9223372036854775808) (n : Nat) (hn : 30000 < n) (hn1 : start.length < n) :
    ∃ h', run (n + 7) 4 [.int .i64 algo, v1, v2, v3] h = some (.ret (.bool true) h') := by
  rw [run, callR_succ, eq4]
  by_cases hr : rightE algo start progs order = 0
  · obtain ⟨h1, w1, w2, r1, g1, g2, B1, le1⟩ := run_ok A1 A2 A3 hr (n + 1) (by omega)
    obtain ⟨x1, x2, x3, hw1⟩ := g1.cell
    obtain ⟨y1, y2, y3, hw2⟩ := g2.cell
    obtain ⟨h2, d2⟩ : ∃ h2, h2 = h1.push (.cells [.slice none 0 0, .slice none 0 0] 0 false) := ⟨_, rfl⟩
    have e8 : newR h1 [(.slice none 0 0), (.slice none 0 0)] = some (.ret (pt h1.len) h2) := by rw [d2]; exact Eq.trans rfl rfl
    have c7 : h2.bs[h1.len]? = some (.cells [.slice none 0 0, .slice none 0 0] 0 false) := by rw [d2]; exact push_new
    have e9 := stNR_row (x := w1) (y := w2) c7 (by rw [hw1, hw2]; rfl)
    obtain ⟨h3, d3⟩ : ∃ h3, h3 = h2.upd h1.len (.cells [w1, w2] 0 false) := ⟨_, rfl⟩
    rw [← d3] at e9
    have c3 : h3.bs[h1.len]? = some (.cells [w1, w2] 0 false) := by rw [d3]; exact upd_eq c7
    have l2 : h2.len = h1.len + 1 := by rw [d2, push_len]
    have l3 : h3.len = h1.len + 1 := by rw [d3, upd_len, l2]
    have keep3 : ∀ (b : Nat) (y : Blk), h1.bs[b]? = some y → h3.bs[b]? = some y := fun b y e => by
      have := lt_len e
      rw [d3, upd_ne (by omega), d2]; exact push_old e
    obtain ⟨h4, r4, B4, le4⟩ := lives_ok h3 n (by omega)
    have q1 : extr 0 (.tuple #[.agg #[w1, w2], .int .i64 0]) = some (.agg #[w1, w2]) := rfl
    have q2 : extr 1 (.tuple #[.agg #[w1, w2], .int .i64 0]) = some (.int .i64 0) := rfl
    have q3 : ((0 : Int) != 0) = false := rfl
    by_cases h4a : algo = 4
    · obtain ⟨h5, r5, B5, le5⟩ := lives_ok h4 n (by omega)
      have q4 : (algo == 4) = true := by simp [h4a]
      refine ⟨h5, ?_⟩
      simp only [run, pt] at r1 e8 e9 r4 r5
      simp only [f4, bindR_ret, r1, q1, q2, pureR_some, e8, e9, r4, unV_not, Bool.not_true, gd_ff, intB_neq, q3, pickV_f, intB_eql, q4, ifR_true, r5, clean, cond_true, Option.bind_some, tup]
    · have q4 : (algo == 4) = false := by simp [h4a]
      have red : f4 (callR Go.Proofs.Try.prog cfg (n + 6)) (n + 6) (.int .i64 algo) v1 v2 v3 h = f4j1 (run (n + 6)) (n + 6) v1 v2 (pt h1.len) h4 := by
        simp only [run, pt] at r1 e8 e9 r4 ⊢
        simp only [f4, bindR_ret, r1, q1, q2, pureR_some, e8, e9, r4, unV_not, Bool.not_true, gd_ff, intB_neq, q3, pickV_f, intB_eql, q4, ifR_false]
      rw [red]
      have W := whole hr h4a
      obtain ⟨ra, rl, ro, rp, rs⟩ := rightE_ok hr
      obtain ⟨s1, s2⟩ := ascB_get start none rs
      have hsl := start_len rs
      have hm : ∀ b y, inpOf h b = some y → inpOf h4 b = some y := fun b y e => B4 b y (by have := lt_len (show h.bs[b]? = some y from e); omega) (keep3 b y (B1 b y (lt_len e) e))
      have c4 : h4.bs[h1.len]? = some (.cells [w1, w2] 0 false) := B4 _ _ (by omega) c3
      have ext1 : ∀ (b : Nat) (y : Blk), h1.bs[b]? = some y → h4.bs[b]? = some y := fun b y e => B4 b y (by have := lt_len e; omega) (keep3 b y e)
      have D4 := (g1.dones).ext ext1
      have L4 : IntsAt (inpOf h4) w2 (leftL (runS algo start progs order)) := (GRow.ints g2).mono ext1
      obtain ⟨h5, d5⟩ : ∃ h5, h5 = h4.push (.cells (arr fun _ => 0) 0 false) := ⟨_, rfl⟩
      have e10 : newR h4 [(.int .i64 0), (.int .i64 0), (.int .i64 0), (.int .i64 0), (.int .i64 0), (.int .i64 0), (.int .i64 0), (.int .i64 0), (.int .i64 0), (.int .i64 0)] = some (.ret (pt h4.len) h5) := by rw [d5]; exact Eq.trans rfl rfl
      have c5 : h5.bs[h4.len]? = some (.cells (arr fun _ => 0) 0 false) := by rw [d5]; exact push_new
      have A1' := A1.mono hm
      simp only [f4j1, bindR_ret, e10, A1'.len]
      obtain ⟨Q, hQ⟩ : ∃ Q : Res → Prop, Q = fun r => ∃ h', r = some (.ret (.bool true) h') := ⟨_, rfl⟩
      suffices H : Q (iterK (n + 6) (fun nx0 (σ : List Value) h => f4j13 (run (n + 6)) (n + 6) nx0 v2 (pt h1.len) (pt h4.len) v1 (.int .i64 (start.length : Nat)) (σ.headD undef) h) [.int .i64 (0 : Nat)] h5) by rw [hQ] at H; exact H
      refine tally1 (inp := inpOf h4) (fun b y e => e) A1' (fun x hx => by
        obtain ⟨i, hi⟩ := List.getElem?_of_mem hx
        have := s1 i x hi; exact ⟨this.1, this.2.1⟩) (by omega) rfl _ (by rw [d5]; exact .push _ _) (by rw [d5, push_len]) c5 _ _ (by omega) Q ?_
      intro h6 B6 l6 c6
      have sm1 : small (start.foldl inc fun _ => 0) 100 := by
        have : ∀ (l : List Int) (f : Nat → Int) (n : Nat), small f n → small (l.foldl inc f) (n + l.length) := by
          intro l
          induction l with
          | nil => intro f n hf; exact hf
          | cons x l ih => intro f n hf; have := ih _ _ (small_inc hf x); simp only [List.foldl_cons, List.length_cons]; rw [show n + (l.length + 1) = n + 1 + l.length by omega]; exact this
        exact small_mono (this start _ 0 (fun _ => by simp)) (by omega)
      have hdl := done_len W hr
      refine tally2 (inp := inpOf h4) (fun b y e => e) (A2.mono hm) (fun d hd => by
        obtain ⟨a, b, _⟩ := doneS_who W d hd; exact ⟨a, b, (kk_range hr a b).2⟩) (by omega) (Nat.le_refl _) (by omega) D4 c4 sm1 B6 (by omega) (by omega) c6 _ _ (by omega) Q ?_
      intro h7 B7 l7 l7' c7'
      have sm2 : small ((doneL (runS algo start progs order)).foldl (tell1 (kkOf progs)) (start.foldl inc fun _ => 0)) 300 := by
        have : ∀ (l : List Dn) (f : Nat → Int) (n : Nat), small f n → small (l.foldl (tell1 (kkOf progs)) f) (n + l.length) := by
          intro l
          induction l with
          | nil => intro f n hf; exact hf
          | cons x l ih => intro f n hf; have := ih _ _ (small_tell (kk := kkOf progs) hf x); simp only [List.foldl_cons, List.length_cons]; rw [show n + (l.length + 1) = n + 1 + l.length by omega]; exact this
        exact small_mono (this _ _ 100 sm1) (by omega)
      obtain ⟨l1, l2', l3'⟩ := left_has W.sound.1.nodes W.sound.2
      have hll := left_len W
      obtain ⟨h8, r8, _⟩ := tally3 L4 l1 l2' (by omega) (b := h4.len) (t := h1.len) (Nat.le_refl _) (by omega) c4 sm2 B7 (by omega) c7' (counts_zero hr h4a) (run (n + 6)) (n + 6) (by omega)
      rw [hQ]
      exact ⟨h8, r8⟩
  · obtain ⟨h1, r1, B1, le1⟩ := run_err A1 A2 A3 hs hr (n + 4) (by omega) (by omega)
    obtain ⟨h2, d2⟩ : ∃ h2, h2 = h1.push (.cells [.slice none 0 0, .slice none 0 0] 0 false) := ⟨_, rfl⟩
    have e8 : newR h1 [(.slice none 0 0), (.slice none 0 0)] = some (.ret (pt h1.len) h2) := by rw [d2]; exact Eq.trans rfl rfl
    have c7 : h2.bs[h1.len]? = some (.cells [.slice none 0 0, .slice none 0 0] 0 false) := by rw [d2]; exact push_new
    have e9 := stNR_row (x := .slice none 0 0) (y := .slice none 0 0) c7 rfl
    obtain ⟨h3, d3⟩ : ∃ h3, h3 = h2.upd h1.len (.cells [.slice none 0 0, .slice none 0 0] 0 false) := ⟨_, rfl⟩
    rw [← d3] at e9
    obtain ⟨h4, r4, B4, le4⟩ := lives_ok h3 n (by omega)
    obtain ⟨h5, r5, B5, le5⟩ := lives_ok h4 n (by omega)
    have q1 : extr 0 (.tuple #[.agg #[.slice none 0 0, .slice none 0 0], .int .i64 (rightE algo start progs order)]) = some (.agg #[.slice none 0 0, .slice none 0 0]) := rfl
    have q2 : extr 1 (.tuple #[.agg #[.slice none 0 0, .slice none 0 0], .int .i64 (rightE algo start progs order)]) = some (.int .i64 (rightE algo start progs order)) := rfl
    have q3 : (rightE algo start progs order != 0) = true := by simpa using hr
    have gsk : ∀ w r h, gd w skipV r h = some (.ret skipV h) := fun w r h => gd_skip w r h
    refine ⟨h5, ?_⟩
    simp only [run, pt] at r1 e8 e9 r4 r5
    simp only [f4, bindR_ret, r1, q1, q2, pureR_some, e8, e9, r4, unV_not, Bool.not_true, gd_ff, intB_neq, q3, pickV_f, gd_ft, gsk, pickV_t, ifR_true, r5, clean, cond_true, Option.bind_some, tup]
end
end Go.Ha

/-
  Hands: the look that Run lives; small functions of the laws.
  Hands: what is left, as a set; what was there at the begin; how often a key was added and cut.
  Hands: the law HandsCount: ten counters.
  Hands: what is handed in, as it lies in the world, and as the abstract machine sees it.
  Hands: all that is handed in, in one heap of the abstract machine.
-/
import Derived.Test.YtejokpfeepbfeaaHaC
import Derived.Test.YtejokpfeepbfeaaHaE
import Derived.Test.YtejokpfeepbfeaaAmLaw
import Derived.ProofKit
set_option linter.unusedSimpArgs false
set_option linter.unusedVariables false
set_option linter.unnecessarySimpa false
namespace Go.Ha
open Go.AM Go.Proofs.YtejokpfeepbfeaaAm

theorem live_done : doneL (runS 1 [3] [[(1,5)],[(3,5)]] [0,0,0,0,0]) = [⟨0,0,0,4,true⟩,⟨1,0,5,9,true⟩] := by kernel_rfl
theorem live_left : leftL (runS 1 [3] [[(1,5)],[(3,5)]] [0,0,0,0,0]) = [3,5] := by kernel_rfl
theorem live_right : rightE 1 [3] [[(1,5)],[(3,5)]] [0,0,0,0,0] = 0 := by kernel_rfl

section
variable {h : Heap}

/-- A row of numbers that grew is a row of numbers. -/
theorem GRow.ints {base : Nat} {v : Value} {l : List Int} (G : GRow base h 1 v (l.map intV64) l.length) : IntsAt (inpOf h) v l := by
  rcases G.2 with ⟨h1, h2⟩ | ⟨h1, b, h2, h3, h4⟩
  · exact .inl ⟨List.eq_nil_of_length_eq_zero h1, none, 0, h2⟩
  · refine .inr ⟨b, 0, l.length, l.map intV64, h3, ?_, ?_⟩
    · show (h.bs[b]?).bind rowOf = _; rw [h4]; rfl
    · intro i x hx
      rw [Nat.zero_add, Nat.mul_one, List.getElem?_map, hx]; rfl

/-- A row of what was done. -/
def DonesAt (h : Heap) (v : Value) (l : List Dn) : Prop :=
  (l = [] ∧ v = .slice none 0 0) ∨ ∃ b, v = .slice (some ⟨b, 0, none⟩) l.length l.length ∧ h.bs[b]? = some (.cells (l.flatMap dnC) 5 false)

theorem GRow.dones {base : Nat} {v : Value} {l : List Dn} (G : GRow base h 5 v (l.flatMap dnC) l.length) : DonesAt h v l := by
  rcases G.2 with ⟨h1, h2⟩ | ⟨h1, b, h2, h3, h4⟩
  · exact .inl ⟨List.eq_nil_of_length_eq_zero h1, h2⟩
  · exact .inr ⟨b, h3, h4⟩

theorem DonesAt.ext {h' : Heap} {v : Value} {l : List Dn} (D : DonesAt h v l) (B : ∀ (b : Nat) (y : Blk), h.bs[b]? = some y → h'.bs[b]? = some y) : DonesAt h' v l :=
  D.imp id fun ⟨b, h1, h2⟩ => ⟨b, h1, B _ _ h2⟩

theorem DonesAt.len {v : Value} {l : List Dn} (D : DonesAt h v l) : lenRS h v = some (.ret (.int .i64 (l.length : Nat)) h) := by
  rcases D with ⟨rfl, rfl⟩ | ⟨b, rfl, _⟩ <;> rfl

theorem flat_get {l : List Dn} : ∀ {i : Nat} {d : Dn}, l[i]? = some d → (l.flatMap dnC)[i * 5]? = some (.int .i64 d.who) ∧ (l.flatMap dnC)[i * 5 + 1]? = some (.int .i64 d.deed) ∧ (l.flatMap dnC)[i * 5 + 2]? = some (.int .i64 d.beg) ∧
    (l.flatMap dnC)[i * 5 + 3]? = some (.int .i64 d.fin) ∧ (l.flatMap dnC)[i * 5 + 4]? = some (.bool d.is) := by
  induction l with
  | nil => intro i d h; simp at h
  | cons x l ih =>
    intro i d h
    cases i with
    | zero => simp at h; subst h; exact ⟨rfl, rfl, rfl, rfl, rfl⟩
    | succ i =>
      have := ih (i := i) (d := d) (by simpa using h)
      have e : ∀ k, (i + 1) * 5 + k = i * 5 + k + 1 + 1 + 1 + 1 + 1 := fun k => by omega
      have e0 : (i + 1) * 5 = i * 5 + 1 + 1 + 1 + 1 + 1 := by omega
      simp only [e, e0, List.flatMap_cons, dnC, List.cons_append, List.nil_append, List.getElem?_cons_succ]
      exact this

theorem take5 {r : List Value} {o : Nat} {a b c d e : Value} (h0 : r[o]? = some a) (h1 : r[o + 1]? = some b) (h2 : r[o + 2]? = some c) (h3 : r[o + 3]? = some d) (h4 : r[o + 4]? = some e) : (r.drop o).take 5 = [a, b, c, d, e] := by
  have l4 := (List.getElem?_eq_some_iff.1 h4).1
  rw [List.drop_eq_getElem_cons (by omega), List.drop_eq_getElem_cons (by omega), List.drop_eq_getElem_cons (by omega), List.drop_eq_getElem_cons (by omega), List.drop_eq_getElem_cons (by omega)]
  simp only [List.take_succ_cons, List.take_zero]
  rw [(List.getElem?_eq_some_iff.1 h0).2, (List.getElem?_eq_some_iff.1 h1).2, (List.getElem?_eq_some_iff.1 h2).2, (List.getElem?_eq_some_iff.1 h3).2, (List.getElem?_eq_some_iff.1 h4).2]

/-- What was done, by its number. -/
theorem DonesAt.get {v : Value} {l : List Dn} (D : DonesAt h v l) {i : Nat} {d : Dn} (hd : l[i]? = some d) :
    ∃ b, idxS 5 v (.int .i64 i) = some (.pointer (some ⟨b, i * 5, none⟩)) ∧ ldNR h 5 (.pointer (some ⟨b, i * 5, none⟩)) = some (.ret (dnV d) h) ∧ ldR h (.pointer (some ⟨b, i * 5 + 3, none⟩)) = some (.ret (.int .i64 d.fin) h) ∧
      ldR h (.pointer (some ⟨b, i * 5 + 4, none⟩)) = some (.ret (.bool d.is) h) := by
  rcases D with ⟨rfl, _⟩ | ⟨b, rfl, hb⟩
  · simp at hd
  · obtain ⟨g0, g1, g2, g3, g4⟩ := flat_get hd
    have hi := (List.getElem?_eq_some_iff.1 hd).1
    refine ⟨b, ?_, ?_, ldR_cells hb g3, ldR_cells hb g4⟩
    · rw [idxS_nat hi, Nat.zero_add]
    · have e : Nat.ble (i * 5 + 5) (l.flatMap dnC).length = true := by rw [Nat.ble_eq, dnC_len]; omega
      simp only [ldNR, ldN, Heap.row, hb, Option.bind_some, cut, e, cond_true, take5 g0 g1 g2 g3 g4, Option.map_some, pureR]
      rfl
end

section
variable {inp : Inp} {h : Heap}

/-- Are both rows the same? -/
theorem sameInts_ok (I : InpOk inp h) {v1 v2 : Value} {l1 l2 : List Int} (A1 : IntsAt inp v1 l1) (A2 : IntsAt inp v2 l2) (hl : l1.length < 9223372036854775808) (n : Nat) (hn : l1.length < n) :
    run (n + 1) 20 [v1, v2] h = some (.ret (.bool (l1 == l2)) h) := by
  rw [run, callR_succ, eq20]
  simp only [f20, bindR_ret, A1.len, A2.len, intB_neq, pureR_some]
  by_cases hlen : l1.length = l2.length
  · have e0 : (((l1.length : Nat) : Int) != ((l2.length : Nat) : Int)) = false := by rw [hlen]; simp
    simp only [e0, ifR_false, f20j1, bindR_ret, A1.len]
    refine iterK_rule (σ := List Value) _ (fun k s h' => h' = h ∧ ∃ i : Nat, i + k = l1.length ∧ s = [.int .i64 i] ∧ (l1 == l2) = (l1.drop i == l2.drop i)) (fun r => r = some (.ret (.bool (l1 == l2)) h)) ?_ n l1.length _ h hn ⟨rfl, 0, by omega, rfl, by simp⟩
    rintro k nx s h' ⟨he, i, hi, rfl, hall⟩ ih
    rw [he]
    simp only [List.headD_cons]
    by_cases hlt : i < l1.length
    · have hx1 : l1[i]? = some l1[i] := List.getElem?_eq_getElem hlt
      have hx2 : l2[i]? = some (l2[i]'(by omega)) := List.getElem?_eq_getElem (by omega)
      obtain ⟨a1, e1, e2⟩ := A1.get I hx1
      obtain ⟨a2, e3, e4⟩ := A2.get I hx2
      have hc : decide ((i : Int) < (l1.length : Nat)) = true := by simp; exact hlt
      rw [List.drop_eq_getElem_cons hlt, List.drop_eq_getElem_cons (show i < l2.length by omega)] at hall
      simp only [f20j3, intB_lss, hc, bindR_ret, pureR_some, ifR_true, f20j4, noPan_ret, Bool.and_true, guardR_true, e1, e2, e3, e4, intB_neq]
      by_cases heq : l1[i] = l2[i]'(by omega)
      · have hne : (l1[i] != l2[i]'(by omega)) = false := by simp [heq]
        simp only [hne, ifR_false, f20j5, bindR_ret, pureR_some, intB_inc' (n := i) (by omega)]
        refine ih (k - 1) _ _ (by omega) ⟨rfl, i + 1, by omega, rfl, ?_⟩
        rw [hall, List.cons_beq_cons, heq, beq_self_eq_true, Bool.true_and]
      · have hne : (l1[i] != l2[i]'(by omega)) = true := by simp [heq]
        have hf : (l1 == l2) = false := by rw [hall, List.cons_beq_cons, beq_false_of_ne heq, Bool.false_and]
        simp only [hne, ifR_true, bindR_ret, clean, cond_true, Option.bind_some, tup, hf]
    · have hd1 : l1.drop i = [] := List.drop_eq_nil_of_le (by omega)
      have hd2 : l2.drop i = [] := List.drop_eq_nil_of_le (by omega)
      have hc : decide ((i : Int) < (l1.length : Nat)) = false := by simp; omega
      rw [hd1, hd2] at hall
      simp only [f20j3, intB_lss, hc, bindR_ret, pureR_some, ifR_false, cond_beq, f20j2, clean, cond_true, Option.bind_some, tup, hall]
      rfl
  · have e0 : (((l1.length : Nat) : Int) != ((l2.length : Nat) : Int)) = true := by simp; omega
    have hf : (l1 == l2) = false := by
      cases h : l1 == l2 with
      | false => rfl
      | true => exact absurd (congrArg List.length (eq_of_beq h)) hlen
    simp only [e0, ifR_true, bindR_ret, clean, cond_true, Option.bind_some, tup, hf]
end

theorem bs_row {h : Heap} {b : Nat} {c : List Value} {k : Nat} {s : Bool} (e : h.bs[b]? = some (.cells c k s)) : (inpOf h b).bind rowOf = some c := by show (h.bs[b]?).bind rowOf = _; rw [e]; rfl

set_option maxRecDepth 4000 in
/-- Run lives. -/
theorem lives_ok (h : Heap) (n : Nat) (hn : 20000 < n) : ∃ h', run (n + 6) 10 [] h = some (.ret (.bool true) h') ∧ Below h.len h h' ∧ h.len ≤ h'.len := by
  obtain ⟨h1, d1⟩ : ∃ h1, h1 = h.push (.cells [.int .i64 3] 0 false) := ⟨_, rfl⟩
  obtain ⟨h2, d2⟩ : ∃ h2, h2 = h1.push (.cells [.int .i64 1, .int .i64 5] 0 false) := ⟨_, rfl⟩
  obtain ⟨h3, d3⟩ : ∃ h3, h3 = h2.push (.cells [.int .i64 3, .int .i64 5] 0 false) := ⟨_, rfl⟩
  obtain ⟨h4, d4⟩ : ∃ h4, h4 = h3.push (.cells [.slice (some ⟨h1.len, 0, none⟩) 1 1, .slice (some ⟨h2.len, 0, none⟩) 1 1] 0 false) := ⟨_, rfl⟩
  obtain ⟨h5, d5⟩ : ∃ h5, h5 = h4.push (.cells [.int .i64 0, .int .i64 0, .int .i64 0, .int .i64 0, .int .i64 0] 0 false) := ⟨_, rfl⟩
  have l1 : h1.len = h.len + 1 := by rw [d1, push_len]
  have l2 : h2.len = h.len + 2 := by rw [d2, push_len, l1]
  have l3 : h3.len = h.len + 3 := by rw [d3, push_len, l2]
  have l4 : h4.len = h.len + 4 := by rw [d4, push_len, l3]
  have l5 : h5.len = h.len + 5 := by rw [d5, push_len, l4]
  have e1 : buildSliceR 1 [(.int .i64 0)] h [(0, 1, (.int .i64 3))] = some (.ret (.slice (some ⟨h.len, 0, none⟩) 1 1) h1) := by rw [d1]; exact Eq.trans rfl rfl
  have e2 : (fillL [(.int .i64 0), (.int .i64 0)] [(0, 1, (.int .i64 1)), (1, 1, (.int .i64 5))]).map (fun c => Value.agg c.toArray) = some (.agg #[.int .i64 1, .int .i64 5]) := Eq.trans rfl rfl
  have e3 : buildSliceR 1 [(.int .i64 0), (.int .i64 0)] h1 [(0, 2, .agg #[.int .i64 1, .int .i64 5])] = some (.ret (.slice (some ⟨h1.len, 0, none⟩) 1 1) h2) := by rw [d2]; exact Eq.trans rfl rfl
  have e4 : (fillL [(.int .i64 0), (.int .i64 0)] [(0, 1, (.int .i64 3)), (1, 1, (.int .i64 5))]).map (fun c => Value.agg c.toArray) = some (.agg #[.int .i64 3, .int .i64 5]) := Eq.trans rfl rfl
  have e5 : buildSliceR 1 [(.int .i64 0), (.int .i64 0)] h2 [(0, 2, .agg #[.int .i64 3, .int .i64 5])] = some (.ret (.slice (some ⟨h2.len, 0, none⟩) 1 1) h3) := by rw [d3]; exact Eq.trans rfl rfl
  have e6 : buildSliceR 2 [(.slice none 0 0)] h3 [(0, 1, .slice (some ⟨h1.len, 0, none⟩) 1 1), (1, 1, .slice (some ⟨h2.len, 0, none⟩) 1 1)] = some (.ret (.slice (some ⟨h3.len, 0, none⟩) 2 2) h4) := by rw [d4]; exact Eq.trans rfl rfl
  have e7 : buildSliceR 5 [(.int .i64 0)] h4 [(0, 1, (.int .i64 0)), (1, 1, (.int .i64 0)), (2, 1, (.int .i64 0)), (3, 1, (.int .i64 0)), (4, 1, (.int .i64 0))] = some (.ret (.slice (some ⟨h4.len, 0, none⟩) 5 5) h5) := by rw [d5]; exact Eq.trans rfl rfl
  have b0 : h5.bs[h.len]? = some (.cells [.int .i64 3] 0 false) := by rw [d5, d4, d3, d2, d1]; exact push_old (push_old (push_old (push_old push_new)))
  have b1 : h5.bs[h1.len]? = some (.cells [.int .i64 1, .int .i64 5] 0 false) := by rw [d5, d4, d3, d2]; exact push_old (push_old (push_old push_new))
  have b2 : h5.bs[h2.len]? = some (.cells [.int .i64 3, .int .i64 5] 0 false) := by rw [d5, d4, d3]; exact push_old (push_old push_new)
  have b3 : h5.bs[h3.len]? = some (.cells [.slice (some ⟨h1.len, 0, none⟩) 1 1, .slice (some ⟨h2.len, 0, none⟩) 1 1] 0 false) := by rw [d5, d4]; exact push_old push_new
  have b4 : h5.bs[h4.len]? = some (.cells [.int .i64 0, .int .i64 0, .int .i64 0, .int .i64 0, .int .i64 0] 0 false) := by rw [d5]; exact push_new
  have A1 : IntsAt (inpOf h5) (.slice (some ⟨h.len, 0, none⟩) 1 1) [3] := .inr ⟨h.len, 0, 1, _, rfl, bs_row b0, fun i x hx => by
    match i, hx with
    | 0, hx => simp at hx; subst hx; rfl⟩
  have A3 : IntsAt (inpOf h5) (.slice (some ⟨h4.len, 0, none⟩) 5 5) [0,0,0,0,0] := .inr ⟨h4.len, 0, 5, _, rfl, bs_row b4, fun i x hx => by
    match i, hx with
    | 0, hx => simp at hx; subst hx; rfl
    | 1, hx => simp at hx; subst hx; rfl
    | 2, hx => simp at hx; subst hx; rfl
    | 3, hx => simp at hx; subst hx; rfl
    | 4, hx => simp at hx; subst hx; rfl⟩
  have P1 : ProgAt (inpOf h5) (.slice (some ⟨h1.len, 0, none⟩) 1 1) [(1,5)] := .inr ⟨h1.len, 0, 1, _, rfl, bs_row b1, fun i k d hx => by
    match i, hx with
    | 0, hx => simp at hx; obtain ⟨rfl, rfl⟩ := hx; exact ⟨rfl, rfl⟩⟩
  have P2 : ProgAt (inpOf h5) (.slice (some ⟨h2.len, 0, none⟩) 1 1) [(3,5)] := .inr ⟨h2.len, 0, 1, _, rfl, bs_row b2, fun i k d hx => by
    match i, hx with
    | 0, hx => simp at hx; obtain ⟨rfl, rfl⟩ := hx; exact ⟨rfl, rfl⟩⟩
  have A2 : RowsAt (inpOf h5) (.slice (some ⟨h3.len, 0, none⟩) 2 2) [[(1,5)],[(3,5)]] := .inr ⟨h3.len, 0, 2, _, rfl, bs_row b3, fun i x hx => by
    match i, hx with
    | 0, hx => simp at hx; subst hx; exact ⟨_, rfl, P1⟩
    | 1, hx => simp at hx; subst hx; exact ⟨_, rfl, P2⟩⟩
  obtain ⟨h6, w1, w2, r1, g1, g2, B6, le6⟩ := run_ok A1 A2 A3 live_right n hn
  rw [live_done] at g1
  rw [live_left] at g2
  have B5 : Below h.len h h5 := by rw [d5, d4, d3, d2, d1]; exact ((((Below.push _ _).trans (.push _ _)).trans (.push _ _)).trans (.push _ _)).trans (.push _ _)
  obtain ⟨b8, n8, c8, hw1⟩ := g1.cell
  obtain ⟨b9, n9, c9, hw2⟩ := g2.cell
  obtain ⟨h7, d7⟩ : ∃ h7, h7 = h6.push (.cells [.slice none 0 0, .slice none 0 0] 0 false) := ⟨_, rfl⟩
  have e8 : newR h6 [(.slice none 0 0), (.slice none 0 0)] = some (.ret (pt h6.len) h7) := by rw [d7]; exact Eq.trans rfl rfl
  have c7 : h7.bs[h6.len]? = some (.cells [.slice none 0 0, .slice none 0 0] 0 false) := by rw [d7]; exact push_new
  have e9 := stNR_row (x := w1) (y := w2) c7 (by rw [hw1, hw2]; rfl)
  obtain ⟨h8, d8⟩ : ∃ h8, h8 = h7.upd h6.len (.cells [w1, w2] 0 false) := ⟨_, rfl⟩
  rw [← d8] at e9
  have c8' : h8.bs[h6.len]? = some (.cells [w1, w2] 0 false) := by rw [d8]; exact upd_eq c7
  have l7 : h7.len = h6.len + 1 := by rw [d7, push_len]
  have l8 : h8.len = h6.len + 1 := by rw [d8, upd_len, l7]
  have keep8 : ∀ (b : Nat) (y : Blk), h6.bs[b]? = some y → h8.bs[b]? = some y := fun b y e => by
    have := lt_len e
    rw [d8, upd_ne (by omega), d7]; exact push_old e
  have f0 : ldR h8 (.pointer (some ⟨h6.len, 0, none⟩)) = some (.ret w1 h8) := ldR_cells c8' rfl
  have f1 : ldR h8 (.pointer (some ⟨h6.len, 1, none⟩)) = some (.ret w2 h8) := ldR_cells c8' rfl
  have D : DonesAt h8 w1 [⟨0,0,0,4,true⟩,⟨1,0,5,9,true⟩] := g1.dones.ext keep8
  obtain ⟨x0, i0, i1, i2, i3⟩ := D.get (i := 0) rfl
  obtain ⟨x1, j0, j1, j2, j3⟩ := D.get (i := 1) rfl
  obtain ⟨h9, d9⟩ : ∃ h9, h9 = h8.push (.cells [.int .i64 3, .int .i64 5] 0 false) := ⟨_, rfl⟩
  have e10 : buildSliceR 2 [(.int .i64 0)] h8 [(0, 1, (.int .i64 3)), (1, 1, (.int .i64 5))] = some (.ret (.slice (some ⟨h8.len, 0, none⟩) 2 2) h9) := by rw [d9]; exact Eq.trans rfl rfl
  have A5 : IntsAt (inpOf h9) w2 [3,5] := (GRow.ints g2).mono fun b y e => by
    have : h8.bs[b]? = some y := keep8 b y e
    show h9.bs[b]? = some y
    rw [d9]; exact push_old this
  have A6 : IntsAt (inpOf h9) (.slice (some ⟨h8.len, 0, none⟩) 2 2) [3,5] := .inr ⟨h8.len, 0, 2, _, rfl, bs_row (by rw [d9]; exact push_new), fun i x hx => by
    match i, hx with
    | 0, hx => simp at hx; subst hx; rfl
    | 1, hx => simp at hx; subst hx; rfl⟩
  have sm := sameInts_ok (inp := inpOf h9) (h := h9) (fun b y e => e) A5 A6 (by simp) (n + 4) (by show 2 < n + 4; omega)
  refine ⟨h9, ?_, ?_, ?_⟩
  · rw [run, callR_succ, eq10]
    have q1 : extr 0 (.tuple #[.agg #[w1, w2], .int .i64 0]) = some (.agg #[w1, w2]) := rfl
    have q2 : extr 1 (.tuple #[.agg #[w1, w2], .int .i64 0]) = some (.int .i64 0) := rfl
    have q3 : ((0 : Int) == 0) = true := rfl
    have q4 : (((2 : Nat) : Int) == 2) = true := rfl
    have q5 : (fillL [(.int .i64 0), (.int .i64 0), (.int .i64 0), (.int .i64 0), (.bool false)] [(2, 1, (.int .i64 0)), (3, 1, (.int .i64 4)), (4, 1, (.bool true))]).map (fun c => Value.agg c.toArray) = some (dnV ⟨0,0,0,4,true⟩) := Eq.trans rfl rfl
    have q6 : eqNeq .eql (aggE [.int .i64, .int .i64, .int .i64, .int .i64, .bool] (dnV ⟨0,0,0,4,true⟩) (dnV ⟨0,0,0,4,true⟩)) = some (.bool true) := Eq.trans rfl rfl
    have q7 : (([3,5] : List Int) == [3,5]) = true := rfl
    have q8 : ([⟨0,0,0,4,true⟩,⟨1,0,5,9,true⟩] : List Dn).length = 2 := rfl
    rw [q7] at sm
    have dl := D.len
    rw [q8] at dl
    simp only [run, pt] at r1 e8 e9 sm
    simp only [Nat.zero_mul, Nat.one_mul] at i0 i1 j0 j3
    have n0 : ((0 : Nat) : Int) = 0 := rfl
    have n1 : ((1 : Nat) : Int) = 1 := rfl
    rw [n0] at i0
    rw [n1] at j0
    simp only [f10, bindR_ret, e1, e2, e3, e4, e5, e6, e7, pureR_some, r1, q1, q2, e8, e9, intB_eql, q3, gd_tt, padd_q, Nat.zero_add, f0, dl, q4, pickV_t, i0, i1, q5, q6, j0, j3, f1, e10, sm, clean, Option.bind_some, cond_true, tup]
  · intro b y hb e
    rw [d9]; exact push_old (keep8 b y (B6 b y (by omega) (B5 b y hb e)))
  · rw [d9, push_len]; omega
end Go.Ha

namespace Go.Ha

section
variable {S : Sys}

theorem left_mem (N : NodesOk S) : ∀ (n i : Nat), i < S.nn → 10 - (S.nodes i).key < n → ∀ k, k ∈ leftFrom S n i ↔ ∃ m, Reach S i m ∧ m < S.nn ∧ (S.nodes m).mark = false ∧ (S.nodes m).key = k ∧ k ≠ 10 := by
  intro n
  induction n with
  | zero => intro i hi h; have := N.le i hi; omega
  | succ n ih =>
    intro i hi h k
    unfold leftFrom
    cases hn : (S.nodes i).next with
    | none =>
      simp only [List.not_mem_nil, false_iff]
      rintro ⟨m, r, h1, h2, h3, h4⟩
      cases r with
      | refl => exact h4 (by rw [← h3]; exact (N.last i hi).1 hn)
      | step _ e _ => rw [hn] at e; simp at e
    | some j =>
      obtain ⟨j1, j2⟩ := N.next i hi j hn
      have hk : (S.nodes i).key ≠ 10 := fun e => by have := (N.last i hi).2 e; rw [hn] at this; simp at this
      simp only [List.mem_append]
      rw [ih j j1 (by omega)]
      constructor
      · rintro (h1 | ⟨m, r, h2⟩)
        · split at h1
          · simp at h1
          · rename_i hm
            simp only [List.mem_singleton] at h1; subst h1
            exact ⟨i, .refl _, hi, by simpa using hm, rfl, hk⟩
        · exact ⟨m, .step hi hn r, h2⟩
      · rintro ⟨m, r, h1, h2, h3, h4⟩
        by_cases e : i = m
        · subst e; left; rw [if_neg (by rw [h2]; simp)]; simp [h3]
        · right; exact ⟨m, r.next e hn, h1, h2, h3, h4⟩

theorem left_asc (N : NodesOk S) : ∀ (n i : Nat), i < S.nn → (∀ k ∈ leftFrom S n i, (S.nodes i).key ≤ k ∧ k ≤ 10) ∧ (leftFrom S n i).Pairwise (· < ·) := by
  intro n
  induction n with
  | zero => intro i hi; exact ⟨fun k hk => by simp [leftFrom] at hk, by simp [leftFrom]⟩
  | succ n ih =>
    intro i hi
    unfold leftFrom
    cases hn : (S.nodes i).next with
    | none => exact ⟨fun k hk => by simp at hk, by simp⟩
    | some j =>
      obtain ⟨j1, j2⟩ := N.next i hi j hn
      obtain ⟨a, b⟩ := ih j j1
      have hle := N.le i hi
      refine ⟨fun k hk => ?_, ?_⟩
      · simp only [List.mem_append] at hk
        rcases hk with hk | hk
        · split at hk
          · simp at hk
          · simp only [List.mem_singleton] at hk; subst hk; exact ⟨Int.le_refl _, hle⟩
        · have := a k hk; omega
      · rw [List.pairwise_append]
        refine ⟨?_, b, ?_⟩
        · split <;> simp
        · intro x hx y hy
          split at hx
          · simp at hx
          · simp only [List.mem_singleton] at hx; subst hx
            have := a y hy; omega

/-- What is left, is in the set. -/
theorem left_has (N : NodesOk S) (A : AInv S) : (leftL S).Pairwise (· < ·) ∧ (∀ k ∈ leftL S, 0 ≤ k ∧ k ≤ 9) ∧ ∀ k, 0 ≤ k → k ≤ 9 → (k ∈ leftL S ↔ Has S k) := by
  obtain ⟨m, h1, h2, h3⟩ := N.headNext
  have hl : leftL S = leftFrom S 20 m := by simp [leftL, h1]
  have hmem := left_mem N 20 m h2 (by have := h3; omega)
  obtain ⟨a, b⟩ := left_asc N 20 m h2
  rw [hl]
  refine ⟨b, fun k hk => ?_, fun k hk0 hk9 => ?_⟩
  · have := a k hk
    obtain ⟨x, _, _, _, _, hne⟩ := (hmem k).1 hk
    omega
  · rw [hmem]
    constructor
    · rintro ⟨x, r, x1, x2, x3, x4⟩; exact ⟨x, x1, x2, x3⟩
    · rintro ⟨x, x1, x2, x3⟩
      have r := A.ur x x1 x2
      refine ⟨x, r.next ?_ h1, x1, x2, x3, by omega⟩
      rintro rfl; rw [N.head] at x3; omega
end

section
variable {algo : Int} {start order : List Int} {progs : List (List (Int × Int))}

theorem has0 (hr : rightE algo start progs order = 0) (k : Int) (hk : 0 ≤ k ∧ k ≤ 9) : Has (sys0 algo start progs) k ↔ k ∈ start := by
  constructor
  · rintro ⟨i, hi, _, hkey⟩
    have hi : i < start.length + 2 := hi
    have hkey : (node0 start i).key = k := hkey
    unfold node0 at hkey
    split at hkey
    · simp only at hkey; omega
    · split at hkey
      · rename_i h0 h1
        have e : start[i - 1]? = some (start[i - 1]'(by omega)) := List.getElem?_eq_getElem (by omega)
        simp [e] at hkey
        exact hkey ▸ List.getElem_mem (by omega)
      · simp only at hkey; omega
  · intro hm
    obtain ⟨i, hi⟩ := List.getElem?_of_mem hm
    have hlt := (List.getElem?_eq_some_iff.1 hi).1
    refine ⟨i + 1, show i + 1 < start.length + 2 by omega, (node0_any start (i + 1)).1, ?_⟩
    show (node0 start (i + 1)).key = k
    rw [node0_key (by omega) (by simpa using hi)]

/-- How a deed counts for key k. -/
def val (kk : Dn → Int × Int) (k : Int) (d : Dn) : Int := if d.is = true ∧ (kk d).2 = k then (if (kk d).1 = 1 then 1 else if (kk d).1 = 2 then -1 else 0) else 0
open Classical in
noncomputable def one (p : Prop) : Int := if p then 1 else 0
def sumL (f : Dn → Int) (l : List Dn) : Int := l.foldr (fun d s => f d + s) 0

theorem sum_erase (f : Dn → Int) : ∀ (l : List Dn) (i : Nat) (x : Dn), l[i]? = some x → sumL f l = f x + sumL f (l.eraseIdx i) := by
  intro l
  induction l with
  | nil => intro i x h; simp at h
  | cons a l ih =>
    intro i x h
    cases i with
    | zero => simp at h; subst h; rfl
    | succ i =>
      have := ih i x (by simpa using h)
      show f a + sumL f l = f x + (f a + sumL f (l.eraseIdx i))
      omega

theorem one_true {p : Prop} (h : p) : one p = 1 := if_pos h
theorem one_false {p : Prop} (h : ¬ p) : one p = 0 := if_neg h
theorem one_congr {p q : Prop} (h : p ↔ q) : one p = one q := by
  by_cases hp : p
  · rw [one_true hp, one_true (h.1 hp)]
  · rw [one_false hp, one_false (fun hq => hp (h.2 hq))]

/-- Of each key: how often it was added less how often it was cut. -/
theorem count_good {kk : Dn → Int × Int} {ρ : Int → Prop} (k : Int) : ∀ {σ : Int → Prop} {todo : List Dn}, Good' kk ρ σ todo → sumL (val kk k) todo = one (ρ k) - one (σ k) := by
  intro σ todo h
  induction h with
  | nil h => rw [one_congr (h k)]; show (0 : Int) = _; omega
  | @pick σ σ' todo i x hx _ hr ha _ ih =>
    rw [sum_erase _ _ _ _ hx, ih]
    have e := one_congr (ha k)
    rw [e]
    unfold After val
    by_cases hk : k = (kk x).2
    · subst hk
      rw [if_pos rfl]
      rcases hr with ⟨h1, h2⟩ | ⟨h1, h2⟩ | ⟨h1, h2⟩
      · by_cases hs : σ (kk x).2
        · have hi : x.is = false := by cases h : x.is with | false => rfl | true => exact absurd (h2.1 h) (by simpa using hs)
          rw [if_neg (by rw [hi]; simp), one_true (p := (kk x).1 = 1 ∨ ((kk x).1 = 3 ∧ σ (kk x).2)) (.inl h1), one_true hs]; omega
        · have hi : x.is = true := h2.2 hs
          rw [if_pos ⟨hi, rfl⟩, if_pos h1, one_true (p := (kk x).1 = 1 ∨ ((kk x).1 = 3 ∧ σ (kk x).2)) (.inl h1), one_false hs]; omega
      · have hno : ¬ ((kk x).1 = 1 ∨ ((kk x).1 = 3 ∧ σ (kk x).2)) := by rw [h1]; simp
        by_cases hs : σ (kk x).2
        · rw [if_pos ⟨h2.2 hs, rfl⟩, if_neg (by omega), if_pos h1, one_false hno, one_true hs]; omega
        · have hi : x.is = false := by cases h : x.is with | false => rfl | true => exact absurd (h2.1 h) hs
          rw [if_neg (by rw [hi]; simp), one_false hno, one_false hs]; omega
      · have e2 : ((kk x).1 = 1 ∨ ((kk x).1 = 3 ∧ σ (kk x).2)) ↔ σ (kk x).2 := by rw [h1]; simp
        rw [one_congr e2]
        have : (if x.is = true ∧ (kk x).2 = (kk x).2 then (if (kk x).1 = 1 then 1 else if (kk x).1 = 2 then -1 else 0) else 0 : Int) = 0 := by
          split
          · rw [if_neg (by omega), if_neg (by omega)]
          · rfl
        rw [this]; omega
    · rw [if_neg hk, if_neg (by rintro ⟨_, h⟩; exact hk h.symm)]; omega
end
end Go.Ha

namespace Go.Ha
open Go.AM Go.Proofs.YtejokpfeepbfeaaAm

/-- Ten counters as a row. -/
def arr (f : Nat → Int) : List Value := (List.range 10).map fun i => .int .i64 (f i)

theorem arr_len (f : Nat → Int) : (arr f).length = 10 := by simp [arr]
theorem arr_get (f : Nat → Int) {k : Nat} (hk : k < 10) : (arr f)[k]? = some (.int .i64 (f k)) := by
  unfold arr; rw [List.getElem?_map, List.getElem?_range hk]; rfl
theorem arr_set (f : Nat → Int) {k : Nat} (v : Int) : (arr f).set k (.int .i64 v) = arr (setF f k v) := by
  apply List.ext_getElem?
  intro i
  by_cases hi : i < 10
  · rw [arr_get _ hi]
    by_cases e : i = k
    · subst e; rw [List.getElem?_set_self (by rw [arr_len]; exact hi)]; simp
    · rw [List.getElem?_set_ne (Ne.symm e), arr_get _ hi, setF_ne _ _ e]
  · rw [List.getElem?_eq_none (by rw [List.length_set, arr_len]; omega), List.getElem?_eq_none (by rw [arr_len]; omega)]

theorem idxA_10 {b : Nat} {k : Int} (h : 0 ≤ k ∧ k ≤ 9) : idxA 10 1 (pt b) (.int .i64 k) = some (.pointer (some ⟨b, 0 + k.toNat * 1, none⟩)) := by
  have : inB k 10 = true := by simp [inB]; omega
  simp [idxA, pt, this]

section
variable {h : Heap} {b : Nat} {f : Nat → Int}

theorem arr_ld (hb : h.bs[b]? = some (.cells (arr f) 0 false)) {k : Int} (hk : 0 ≤ k ∧ k ≤ 9) : ldR h (.pointer (some ⟨b, 0 + k.toNat * 1, none⟩)) = some (.ret (.int .i64 (f k.toNat)) h) :=
  ldR_cells hb (by rw [Nat.zero_add, Nat.mul_one]; exact arr_get f (by omega))
theorem arr_st (hb : h.bs[b]? = some (.cells (arr f) 0 false)) {k : Int} (hk : 0 ≤ k ∧ k ≤ 9) (v : Int) :
    stR h (.pointer (some ⟨b, 0 + k.toNat * 1, none⟩)) (.int .i64 v) = some (.ret undef (h.upd b (.cells (arr (setF f k.toNat v)) 0 false))) := by
  rw [stR_cells hb (by rw [arr_len]; omega) rfl, Nat.zero_add, Nat.mul_one, arr_set]

theorem int_add1 {x : Int} (hx : -1000 ≤ x ∧ x ≤ 1000) : intB .add (.int .i64 x) (.int .i64 1) = some (.int .i64 (x + 1)) := by
  have : IntKind.i64.wrap (x + 1) = x + 1 := wrap_in (by omega)
  simp [intB, isShift, intV, this]
theorem int_sub1 {x : Int} (hx : -1000 ≤ x ∧ x ≤ 1000) : intB .sub (.int .i64 x) (.int .i64 1) = some (.int .i64 (x - 1)) := by
  have : IntKind.i64.wrap (x - 1) = x - 1 := wrap_in (by omega)
  simp [intB, isShift, intV, this]

/-- A deed is laid in cells of the call's own. -/
theorem put5 (h : Heap) (d : Dn) : newR h [(.int .i64 0), (.int .i64 0), (.int .i64 0), (.int .i64 0), (.bool false)] = some (.ret (pt h.len) (h.push (.cells [(.int .i64 0), (.int .i64 0), (.int .i64 0), (.int .i64 0), (.bool false)] 0 false))) ∧
    stNR (h.push (.cells [(.int .i64 0), (.int .i64 0), (.int .i64 0), (.int .i64 0), (.bool false)] 0 false)) 5 (pt h.len) (dnV d) = some (.ret undef (h.push (.cells (dnC d) 0 false))) := by
  refine ⟨Eq.trans rfl rfl, ?_⟩
  have e1 : Nat.beq 5 5 = true := rfl
  have e2 : Nat.ble (0 + 5) 5 = true := rfl
  simp [stNR, dnV, stL, pt, push_new, e1, e2, cellsOk, cellOk, setL, upd_push, dnC]
end

/-- One more of a key. -/
def inc (f : Nat → Int) (k : Int) : Nat → Int := setF f k.toNat (f k.toNat + 1)
def dec' (f : Nat → Int) (k : Int) : Nat → Int := setF f k.toNat (f k.toNat - 1)
def small (f : Nat → Int) (n : Nat) : Prop := ∀ i, -(n : Int) ≤ f i ∧ f i ≤ n

theorem small_inc {f : Nat → Int} {n : Nat} (h : small f n) (k : Int) : small (inc f k) (n + 1) := by
  intro i; unfold inc setF
  have := h i; have := h k.toNat
  split <;> omega
theorem small_dec {f : Nat → Int} {n : Nat} (h : small f n) (k : Int) : small (dec' f k) (n + 1) := by
  intro i; unfold dec' setF
  have := h i; have := h k.toNat
  split <;> omega
theorem small_mono {f : Nat → Int} {n m : Nat} (h : small f n) (hm : n ≤ m) : small f m := fun i => by have := h i; omega

/-- The counters behind a deed. -/
def tell1 (kk : Dn → Int × Int) (f : Nat → Int) (d : Dn) : Nat → Int :=
  if d.is = true ∧ (kk d).1 = 1 then inc f (kk d).2 else if d.is = true ∧ (kk d).1 = 2 then dec' f (kk d).2 else f

theorem tell1_at (kk : Dn → Int × Int) (f : Nat → Int) (d : Dn) (hk : 0 ≤ (kk d).2) (k : Nat) : tell1 kk f d k = f k + val kk k d := by
  unfold tell1 val inc dec' setF
  by_cases hi : d.is = true
  · by_cases e : (kk d).2 = k
    · have e2 : k = (kk d).2.toNat := by omega
      by_cases h1 : (kk d).1 = 1
      · rw [if_pos ⟨hi, h1⟩, if_pos e2, if_pos ⟨hi, e⟩, if_pos h1, ← e2]
      · rw [if_neg (fun h => h1 h.2), if_pos (c := d.is = true ∧ (kk d).2 = ↑k) ⟨hi, e⟩, if_neg (c := (kk d).1 = 1) h1]
        by_cases h2 : (kk d).1 = 2
        · rw [if_pos (c := d.is = true ∧ (kk d).1 = 2) ⟨hi, h2⟩, if_pos e2, if_pos h2, ← e2]; omega
        · rw [if_neg (c := d.is = true ∧ (kk d).1 = 2) (fun h => h2 h.2), if_neg h2]; omega
    · have e2 : ¬ k = (kk d).2.toNat := by omega
      rw [if_neg (c := d.is = true ∧ (kk d).2 = ↑k) (fun h => e h.2)]
      split
      · dsimp only; rw [if_neg e2]; omega
      · split
        · dsimp only; rw [if_neg e2]; omega
        · omega
  · rw [if_neg (fun h => hi h.1), if_neg (fun h => hi h.1), if_neg (fun h => hi h.1)]; omega

theorem small_tell {kk : Dn → Int × Int} {f : Nat → Int} {n : Nat} (h : small f n) (d : Dn) : small (tell1 kk f d) (n + 1) := by
  unfold tell1
  split
  · exact small_inc h _
  · split
    · exact small_dec h _
    · exact small_mono h (Nat.le_succ n)

theorem fold_tell (kk : Dn → Int × Int) : ∀ (l : List Dn) (f : Nat → Int), (∀ d ∈ l, 0 ≤ (kk d).2) → ∀ k : Nat, l.foldl (tell1 kk) f k = f k + sumL (val kk k) l := by
  intro l
  induction l with
  | nil => intro f _ k; show f k = f k + 0; omega
  | cons d l ih =>
    intro f h k
    show (l.foldl (tell1 kk) (tell1 kk f d)) k = f k + (val kk k d + sumL (val kk k) l)
    rw [ih _ (fun x hx => h x (List.mem_cons_of_mem _ hx)), tell1_at _ _ _ (h d List.mem_cons_self)]; omega

theorem fold_inc : ∀ (l : List Int) (f : Nat → Int), (∀ x ∈ l, 0 ≤ x) → l.Pairwise (· < ·) → ∀ k : Nat, l.foldl inc f k = f k + one ((k : Int) ∈ l) := by
  intro l
  induction l with
  | nil => intro f _ _ k; rw [one_false (by simp)]; show f k = _; omega
  | cons x l ih =>
    intro f h hp k
    rw [List.pairwise_cons] at hp
    show l.foldl inc (inc f x) k = _
    rw [ih _ (fun y hy => h y (List.mem_cons_of_mem _ hy)) hp.2]
    have hx := h x List.mem_cons_self
    unfold inc setF
    by_cases e : k = x.toNat
    · rw [if_pos e]
      have e2 : (k : Int) = x := by omega
      rw [one_false (p := (k : Int) ∈ l) (fun hm => by have := hp.1 _ hm; omega), one_true (p := (k : Int) ∈ x :: l) (by rw [e2]; exact List.mem_cons_self), ← e]; omega
    · rw [if_neg e]
      have : ((k : Int) ∈ x :: l) ↔ (k : Int) ∈ l := by
        simp only [List.mem_cons]; constructor
        · rintro (h | h)
          · omega
          · exact h
        · exact .inr
      rw [one_congr this]
theorem fold_dec : ∀ (l : List Int) (f : Nat → Int), (∀ x ∈ l, 0 ≤ x) → l.Pairwise (· < ·) → ∀ k : Nat, l.foldl dec' f k = f k - one ((k : Int) ∈ l) := by
  intro l
  induction l with
  | nil => intro f _ _ k; rw [one_false (by simp)]; show f k = _; omega
  | cons x l ih =>
    intro f h hp k
    rw [List.pairwise_cons] at hp
    show l.foldl dec' (dec' f x) k = _
    rw [ih _ (fun y hy => h y (List.mem_cons_of_mem _ hy)) hp.2]
    have hx := h x List.mem_cons_self
    unfold dec' setF
    by_cases e : k = x.toNat
    · rw [if_pos e]
      have e2 : (k : Int) = x := by omega
      rw [one_false (p := (k : Int) ∈ l) (fun hm => by have := hp.1 _ hm; omega), one_true (p := (k : Int) ∈ x :: l) (by rw [e2]; exact List.mem_cons_self), ← e]; omega
    · rw [if_neg e]
      have : ((k : Int) ∈ x :: l) ↔ (k : Int) ∈ l := by
        simp only [List.mem_cons]; constructor
        · rintro (h | h)
          · omega
          · exact h
        · exact .inr
      rw [one_congr this]

section
variable {inp : Inp}

/-- The loop over the keys that were there. -/
theorem tally1 {h0 : Heap} (I0 : InpOk inp h0) {v1 v2 : Value} {start : List Int} (A : IntsAt inp v1 start) (hs : ∀ x ∈ start, 0 ≤ x ∧ x ≤ 9) (hl : start.length ≤ 100) {b : Nat} (hbl : b = h0.len) (t9 : Value)
    {hb : Heap} (B0 : Below h0.len h0 hb) (hlb : hb.len = h0.len + 1) (hb0 : hb.bs[b]? = some (.cells (arr fun _ => 0) 0 false)) (cr : FuncId → List Value → Heap → Res) (m : Nat) (hm : start.length < m) (Q : Res → Prop)
    (cont : ∀ h, Below h0.len h0 h → h.len = h0.len + 1 → h.bs[b]? = some (.cells (arr (start.foldl inc fun _ => 0)) 0 false) → Q (f4j2 cr m v2 t9 (pt b) h)) :
    Q (iterK m (fun nx0 (σ : List Value) h => f4j13 cr m nx0 v2 t9 (pt b) v1 (.int .i64 (start.length : Nat)) (σ.headD undef) h) [.int .i64 (0 : Nat)] hb) := by
  refine iterK_rule (σ := List Value) _ (fun k s h => ∃ (i : Nat) (f : Nat → Int), i + k = start.length ∧ s = [.int .i64 i] ∧ Below h0.len h0 h ∧ h.len = h0.len + 1 ∧ h.bs[b]? = some (.cells (arr f) 0 false) ∧ small f i ∧ (start.drop i).foldl inc f = start.foldl inc fun _ => 0)
    Q ?_ m start.length _ _ hm ⟨0, fun _ => 0, by omega, rfl, B0, hlb, hb0, fun _ => by simp, rfl⟩
  rintro k nx s h ⟨i, f, hi, rfl, B, hle, hbb, hsm, hf⟩ ih
  simp only [List.headD_cons]
  by_cases hlt : i < start.length
  · have hx : start[i]? = some start[i] := List.getElem?_eq_getElem hlt
    obtain ⟨a, e1, e2⟩ := A.get (I0.below B) hx
    have hc : decide ((i : Int) < (start.length : Nat)) = true := by simp; exact hlt
    have hr := hs _ (List.getElem_mem hlt)
    have := hsm start[i].toNat
    rw [List.drop_eq_getElem_cons hlt] at hf
    simp only [f4j13, intB_lss, hc, bindR_ret, pureR_some, ifR_true, f4j14, e1, e2, idxA_10 hr, arr_ld hbb hr, int_add1 (x := f start[i].toNat) (by omega), arr_st hbb hr, f4j15, intB_inc' (n := i) (by omega)]
    refine ih (k - 1) _ _ (by omega) ⟨i + 1, inc f start[i], by omega, rfl, ?_, by rw [upd_len]; exact hle, upd_eq hbb, small_inc hsm _, hf⟩
    intro x y hxl e
    rw [upd_ne (by omega)]; exact B x y hxl e
  · have hd : start.drop i = [] := List.drop_eq_nil_of_le (by omega)
    have hc : decide ((i : Int) < (start.length : Nat)) = false := by simp; omega
    rw [hd] at hf
    have hf : f = start.foldl inc fun _ => 0 := hf
    simp only [f4j13, intB_lss, hc, bindR_ret, pureR_some, ifR_false, cond_beq]
    exact cont h B hle (by rw [← hf]; exact hbb)
end
end Go.Ha

namespace Go.Ha
open Go.AM Go.WideShapes Go.ChangeShapes

section
variable {w : World}

/-- n cells from a on are there. -/
theorem wrow {a : Addr} {n : Nat} (hn : 0 < n) (h : ∀ i, i < n → ∃ v, w.cell? (a.add i) = some v) :
    ∃ b off, a = ⟨b, off, none⟩ ∧ ∃ C e fz, w.heap[b]? = some (.cells C e fz) ∧ off + n ≤ C.size ∧ ∀ i, w.cell? (a.add i) = C[off + i]? := by
  obtain ⟨v0, h0⟩ := h 0 hn
  obtain ⟨b, off, spot⟩ := a
  have hs : spot = none := by simpa [Addr.add] using World.cell?_spot h0
  subst hs
  refine ⟨b, off, rfl, ?_⟩
  have cell : ∀ o, w.cell? ⟨b, o, none⟩ = match w.heap[b]? with | some (.cells C _ _) => C[o]? | _ => none := by
    intro o; unfold World.cell?
    cases hb : w.heap[b]? with
    | none => rfl
    | some x => cases x <;> simp
  rw [add_plain, cell] at h0
  match hb : w.heap[b]?, h0 with
  | some (.cells C e fz), h0 =>
    refine ⟨C, e, fz, rfl, ?_, fun i => ?_⟩
    · obtain ⟨v, hv⟩ := h (n - 1) (by omega)
      rw [add_plain, cell, hb] at hv
      have := (Array.getElem?_eq_some_iff.1 hv).1
      omega
    · rw [add_plain, cell, hb]

/-- The place of one block, and what it says. -/
structure Laid (w : World) where
  v : Value
  y : Blk
  p : AM.Place

/-- A laid value: it stands for x, wherever its block comes to lie. -/
structure Stand (w : World) (L : Laid w) (b : Nat) (x : Value) : Prop where
  vr : ∀ (μ : Pl) (n : Nat), μ b = L.p → b < n → VR μ n L.v x
  blk : ∀ (μ : Pl) (n : Nat), BlkR μ n L.p w L.y
  own : L.y.own = false
  ro : L.y = .dead ∨ ∃ c, L.y = .ro c

/-- A row of plain cells. -/
theorem stand_row {b off len cap : Nat} {C : Array Value} {e : TypeId} {fz : Nat × Nat} (hb : w.heap[b]? = some (.cells C e fz)) {cs : List Value} (hsz : off + cs.length ≤ C.size) (hc : ∀ (i : Nat) (v : Value), cs[i]? = some v → C[off + i]? = some v) (hp : ∀ (i : Nat) (v : Value), cs[i]? = some v → ∃ k z, v = .int k z) (n : Nat) :
    Stand w ⟨.slice (some ⟨n, 0, none⟩) len cap, .ro cs, ⟨b, off, 0⟩⟩ n (.slice (some ⟨b, off, none⟩) len cap) := by
  refine ⟨fun μ m hm hn => ?_, fun μ m => ⟨C, e, fz, hb, ⟨hsz, fun i v hv => ?_⟩, rfl⟩, rfl, .inr ⟨_, rfl⟩⟩
  · have := VR.slice (μ := μ) n 0 len cap hn
    rw [hm] at this
    simpa using this
  · obtain ⟨k, z, rfl⟩ := hp i v hv
    exact ⟨_, hc i _ hv, .int k z⟩

theorem stand_nil (b : Nat) : Stand w ⟨.slice none 0 0, .dead, ⟨0, 0, 0⟩⟩ b (.slice none 0 0) :=
  ⟨fun _ _ _ _ => .nilslice 0 0, fun _ _ => trivial, rfl, .inl rfl⟩
theorem stand_empty (b : Nat) (a : Addr) : Stand w ⟨.slice (some ⟨b, 0, none⟩) 0 0, .dead, ⟨0, 0, 0⟩⟩ b (.slice (some a) 0 0) :=
  ⟨fun _ _ _ h => .empty b 0 a h, fun _ _ => trivial, rfl, .inl rfl⟩
end

section
variable {H : Type} {enc : TypeId × Value → H} {P : Program} {w : World} {base : Nat} {held : Bool}

/-- A slice of numbers. -/
theorem stand_ints2 {t e : TypeId} {fuel : Nat} {x : Value} {d : DataW H × List MemPlace} (ht : P.underlying t = some (.slice e)) (he : P.underlying e = some (.int .i64)) (hc : P.cellsOf e = 1)
    (h : DataW.trod enc P w base (fun _ => true) held fuel t [x] = some d) (b : Nat) :
    ∃ (l : List Int) (L : Laid w), l.length ≤ maxLen ∧ Stand w L b x ∧ (∀ inp : Inp, inp b = some L.y → IntsAt inp L.v l) ∧
      ((∀ h : Heap, h.bs[b]? = some L.y → elemsOf h 1 l.length L.v = some (l.map fun z => Value.int .i64 z)) ∨ (l = [] ∧ ∃ a, x = .slice (some a) 0 0)) := by
  rcases open_ints ht he hc h with ⟨hx, _⟩ | ⟨a, len, cap, zs, hx, hb, hl, hm, hz, _, hcell, _⟩
  · simp only [List.cons.injEq, and_true] at hx; subst hx
    exact ⟨[], _, by simp, stand_nil b, fun inp _ => .inl ⟨rfl, none, 0, rfl⟩, .inl fun _ _ => rfl⟩
  · simp only [List.cons.injEq, and_true] at hx; subst hx
    simp only [if_true] at hz
    by_cases h0 : cap = 0
    · subst h0
      have : len = 0 := by omega
      subst this
      exact ⟨[], _, by simp, stand_empty b a, fun inp _ => .inl ⟨rfl, _, 0, rfl⟩, .inr ⟨rfl, a, rfl⟩⟩
    · obtain ⟨bb, off, rfl, C, ee, fz, hbb, hsz, hall⟩ := wrow (w := w) (a := a) (n := cap) (by omega) fun i hi => ⟨_, hcell i (by omega)⟩
      have hC : ∀ i, i < cap → C[off + i]? = some (.int .i64 (zs.getD i 0)) := fun i hi => by rw [← hall, hcell i (by omega)]
      have hlen : ((zs.take len).map fun z => Value.int .i64 z).length = len := by simp; omega
      have hget : ∀ (i : Nat) (v : Value), ((zs.take len).map fun z => Value.int .i64 z)[i]? = some v → i < len ∧ v = .int .i64 (zs.getD i 0) := by
        intro i v hv
        have hi := (List.getElem?_eq_some_iff.1 hv).1
        rw [hlen] at hi
        refine ⟨hi, ?_⟩
        rw [List.getElem?_map, List.getElem?_take] at hv
        rw [if_pos hi] at hv
        have : zs[i]? = some (zs.getD i 0) := by simp [show i < zs.length by omega]
        rw [this] at hv; simpa using hv.symm
      refine ⟨zs.take len, ⟨.slice (some ⟨b, 0, none⟩) len cap, .ro ((zs.take len).map fun z => Value.int .i64 z), ⟨bb, off, 0⟩⟩, by simp; omega, stand_row hbb (by rw [hlen]; omega) (fun i v hv => ?_) (fun i v hv => ?_) b, fun inp hi => .inr ⟨b, 0, cap, (zs.take len).map fun z => Value.int .i64 z, ?_, ?_, ?_⟩, .inl fun h hb => ?_⟩
      · obtain ⟨h1, rfl⟩ := hget i v hv; exact hC i (by omega)
      · obtain ⟨h1, rfl⟩ := hget i v hv; exact ⟨_, _, rfl⟩
      · have : (zs.take len).length = len := by simp; omega
        rw [this]
      · rw [hi]; rfl
      · intro i z hz'
        rw [Nat.zero_add, Nat.mul_one, List.getElem?_map, hz']; rfl
      · have e0 : (zs.take len).length = len := by simp; omega
        have e1 : Nat.ble len len = true := by simp
        have e2 : Nat.ble (0 + len * 1) ((zs.take len).map fun z => Value.int .i64 z).length = true := by rw [Nat.ble_eq, hlen]; omega
        rw [e0]
        simp only [elemsOf, e1, cond_true, Heap.row, hb, Option.bind_some, cut, e2, List.drop_zero]
        rw [List.take_of_length_le (by rw [hlen]; omega)]

theorem stand_ints {t e : TypeId} {fuel : Nat} {x : Value} {d : DataW H × List MemPlace} (ht : P.underlying t = some (.slice e)) (he : P.underlying e = some (.int .i64)) (hc : P.cellsOf e = 1)
    (h : DataW.trod enc P w base (fun _ => true) held fuel t [x] = some d) (b : Nat) :
    ∃ (l : List Int) (L : Laid w), l.length ≤ maxLen ∧ Stand w L b x ∧ ∀ inp : Inp, inp b = some L.y → IntsAt inp L.v l := by
  obtain ⟨l, L, h1, h2, h3, _⟩ := stand_ints2 ht he hc h b
  exact ⟨l, L, h1, h2, h3⟩

/-- A deed. -/
theorem open_deed {t : TypeId} {n : Nat} {cs : List Value} {d : DataW H × List MemPlace} {f0 f1 : Field} (ht : P.underlying t = some (.struct #[f0, f1])) (h0 : P.underlying f0.type = some (.int .i64)) (h1 : P.underlying f1.type = some (.int .i64))
    (o0 : f0.offset = 0) (o1 : f1.offset = 1) (c0 : P.cellsOf f0.type = 1) (c1 : P.cellsOf f1.type = 1) (h2 : P.cellsOf t = 2)
    (h : DataW.trod enc P w base (fun _ => true) held n t cs = some d) : ∃ k z, cs = [.int .i64 k, .int .i64 z] := by
  obtain ⟨xs, m, rfl, _, hl, hn, hf⟩ := DataW.trod_struct ht h
  rw [h2] at hl
  match cs, hl with
  | [x, y], _ =>
    have g0 := hf 0 f0 rfl
    have g1 := hf 1 f1 rfl
    rw [o0, c0] at g0
    rw [o1, c1] at g1
    simp only [List.drop_zero, List.take_succ_cons, List.take_zero, List.drop_succ_cons] at g0 g1
    have l0 : xs[0]? = some (xs[0]'(by rw [hn]; simp)) := List.getElem?_eq_getElem _
    have l1 : xs[1]? = some (xs[1]'(by rw [hn]; simp)) := List.getElem?_eq_getElem _
    rw [l0] at g0; rw [l1] at g1
    obtain ⟨k, e0, _⟩ := DataW.trod_int h0 g0
    obtain ⟨z, e1, _⟩ := DataW.trod_int h1 g1
    simp only [List.cons.injEq, and_true] at e0 e1
    exact ⟨k, z, by rw [e0, e1]⟩

/-- The types of deeds. -/
structure DeedT (P : Program) (rows row deed num : TypeId) : Prop where
  rowsT : P.underlying rows = some (.slice row)
  rowT : P.underlying row = some (.slice deed)
  deedT : ∃ f0 f1, P.underlying deed = some (.struct #[f0, f1]) ∧ f0.type = num ∧ f1.type = num ∧ f0.offset = 0 ∧ f1.offset = 1
  numT : P.underlying num = some (.int .i64)
  c1 : P.cellsOf num = 1
  c2 : P.cellsOf deed = 2
  c3 : P.cellsOf row = 1

/-- A slice of deeds. -/
theorem stand_deeds {rows row deed num : TypeId} (T : DeedT P rows row deed num) {fuel : Nat} {x : Value} {d : DataW H × List MemPlace} (h : DataW.trod enc P w base (fun _ => true) held fuel row [x] = some d) (b : Nat) :
    ∃ (l : List (Int × Int)) (L : Laid w), l.length ≤ maxLen ∧ Stand w L b x ∧ ∀ inp : Inp, inp b = some L.y → ProgAt inp L.v l := by
  obtain ⟨f0, f1, hd, ty0, ty1, o0, o1⟩ := T.deedT
  rcases DataW.trod_slice T.rowT h with ⟨hx, _⟩ | ⟨a, len, cap, elems, rest, n, _, hx, _, hb, hl, hm, hlen, hel, hsp, _⟩
  · simp only [List.cons.injEq, and_true] at hx; subst hx
    exact ⟨[], _, by simp, stand_nil b, fun inp _ => .inl ⟨rfl, none, 0, 0, rfl, rfl⟩⟩
  · simp only [List.cons.injEq, and_true] at hx; subst hx
    obtain ⟨hrl, hr⟩ := hsp rfl
    by_cases h0 : cap = 0
    · subst h0
      have : len = 0 := by omega
      subst this
      exact ⟨[], _, by simp, stand_empty b a, fun inp _ => .inl ⟨rfl, _, 0, 0, rfl, rfl⟩⟩
    · rw [T.c2] at hel hr
      have each : ∀ i, i < cap → ∃ k z, w.cell? (a.add (i * 2)) = some (.int .i64 k) ∧ w.cell? (a.add (i * 2 + 1)) = some (.int .i64 z) := by
        intro i hi
        have : ∃ y, (w.cells? base (a.add (i * 2)) 2).bind (DataW.trod enc P w base (fun _ => true) held n deed) = some y := by
          by_cases hil : i < len
          · exact ⟨_, (hel i hil).trans (List.getElem?_eq_getElem (by omega))⟩
          · have := hr (i - len) (by omega)
            rw [show len + (i - len) = i by omega] at this
            exact ⟨_, this.trans (List.getElem?_eq_getElem (by omega))⟩
        obtain ⟨y, hy⟩ := this
        rw [Option.bind_eq_some_iff] at hy
        obtain ⟨cs, h1, h2⟩ := hy
        obtain ⟨k, z, rfl⟩ := open_deed hd (by rw [ty0]; exact T.numT) (by rw [ty1]; exact T.numT) o0 o1 (by rw [ty0]; exact T.c1) (by rw [ty1]; exact T.c1) T.c2 h2
        obtain ⟨_, _, h3⟩ := World.cells?_some h1
        have e0 := h3 0 (by omega)
        have e1 := h3 1 (by omega)
        have add0 : ∀ a : Addr, a.add 0 = a := fun a => by simp [Addr.add]
        rw [add0] at e0
        have sp := World.cell?_spot e0
        have addadd : (a.add (i * 2)).add 1 = a.add (i * 2 + 1) := by
          unfold Addr.add at sp ⊢
          by_cases hz : i * 2 = 0
          · simp [hz]
          · simp [hz, Nat.add_assoc]
        rw [addadd] at e1
        exact ⟨k, z, e0, e1⟩
      have cellAt : ∀ i, i < cap * 2 → ∃ z, w.cell? (a.add i) = some (.int .i64 z) := by
        intro i hi
        obtain ⟨k, z, e0, e1⟩ := each (i / 2) (by omega)
        by_cases hm2 : i % 2 = 0
        · rw [show i / 2 * 2 = i by omega] at e0; exact ⟨k, e0⟩
        · rw [show i / 2 * 2 + 1 = i by omega] at e1; exact ⟨z, e1⟩
      obtain ⟨bb, off, rfl, C, ee, fz, hbb, hsz, hall⟩ := wrow (w := w) (a := a) (n := cap * 2) (by omega) (fun i hi => by obtain ⟨z, e⟩ := cellAt i hi; exact ⟨_, e⟩)
      have hC : ∀ i, i < cap * 2 → ∃ z, C[off + i]? = some (.int .i64 z) := fun i hi => by obtain ⟨z, e⟩ := cellAt i hi; exact ⟨z, by rw [← hall]; exact e⟩
      -- the deeds, read off the row
      let num (i : Nat) : Int := match C[off + i]? with | some (.int _ z) => z | _ => 0
      have hnum : ∀ i, i < cap * 2 → C[off + i]? = some (.int .i64 (num i)) := by
        intro i hi
        obtain ⟨z, e⟩ := hC i hi
        have : num i = z := by show (match C[off + i]? with | some (.int _ z) => z | _ => 0) = z; rw [e]
        rw [this]; exact e
      let cs : List Value := (List.range (len * 2)).map fun i => .int .i64 (num i)
      have hget : ∀ (i : Nat) (v : Value), cs[i]? = some v → i < len * 2 ∧ v = .int .i64 (num i) := by
        intro i v hv
        have hi := (List.getElem?_eq_some_iff.1 hv).1
        simp only [cs, List.length_map, List.length_range] at hi
        refine ⟨hi, ?_⟩
        simp only [cs, List.getElem?_map, List.getElem?_range hi, Option.map_some, Option.some.injEq] at hv
        exact hv.symm
      refine ⟨(List.range len).map fun i => (num (i * 2), num (i * 2 + 1)), ⟨.slice (some ⟨b, 0, none⟩) len cap, .ro cs, ⟨bb, off, 0⟩⟩, by simp; omega, stand_row hbb (by simp [cs]; omega) (fun i v hv => ?_) (fun i v hv => ?_) b, fun inp hi => .inr ⟨b, 0, cap, cs, by simp, by rw [hi]; rfl, ?_⟩⟩
      · obtain ⟨h1, rfl⟩ := hget i v hv; exact hnum i (by omega)
      · obtain ⟨h1, rfl⟩ := hget i v hv; exact ⟨_, _, rfl⟩
      · intro i k z hkz
        have hi := (List.getElem?_eq_some_iff.1 hkz).1
        simp only [List.length_map, List.length_range] at hi
        simp only [List.getElem?_map, List.getElem?_range hi, Option.map_some, Option.some.injEq, Prod.mk.injEq] at hkz
        obtain ⟨rfl, rfl⟩ := hkz
        constructor
        · rw [Nat.zero_add]; simp only [cs]; rw [List.getElem?_map, List.getElem?_range (by omega)]; rfl
        · rw [Nat.zero_add]; simp only [cs]; rw [List.getElem?_map, List.getElem?_range (by omega)]; rfl
end
end Go.Ha

namespace Go.Ha
open Go.AM Go.WideShapes Go.ChangeShapes

section
variable {H : Type} {enc : TypeId × Value → H} {P : Program} {w : World} {base : Nat} {held : Bool}
variable {rows row deed num : TypeId}

theorem inners (T : DeedT P rows row deed num) : ∀ (l : List Value), (∀ x ∈ l, ∃ (fuel : Nat) (d : DataW H × List MemPlace), DataW.trod enc P w base (fun _ => true) held fuel row [x] = some d) → ∀ b0 : Nat,
    ∃ (ps : List (List (Int × Int))) (Ls : List (Laid w)), ps.length = l.length ∧ Ls.length = l.length ∧ (∀ p ∈ ps, p.length ≤ maxLen) ∧ ∀ (i : Nat) (x : Value) (p : List (Int × Int)) (L : Laid w), l[i]? = some x → ps[i]? = some p → Ls[i]? = some L →
      Stand w L (b0 + i) x ∧ ∀ inp : Inp, inp (b0 + i) = some L.y → ProgAt inp L.v p := by
  intro l
  induction l with
  | nil => intro _ b0; exact ⟨[], [], rfl, rfl, fun p h => by simp at h, fun i x p L h => by simp at h⟩
  | cons x l ih =>
    intro h b0
    obtain ⟨fuel, d, hd⟩ := h x List.mem_cons_self
    obtain ⟨p, L, hpl, h1, h2⟩ := stand_deeds T hd b0
    obtain ⟨ps, Ls, h3, h4, hpls, h5⟩ := ih (fun y hy => h y (List.mem_cons_of_mem _ hy)) (b0 + 1)
    refine ⟨p :: ps, L :: Ls, by simp [h3], by simp [h4], fun q hq => by rcases List.mem_cons.1 hq with rfl | hq; exact hpl; exact hpls _ hq, fun i y q M e1 e2 e3 => ?_⟩
    cases i with
    | zero => simp at e1 e2 e3; subst e1; subst e2; subst e3; exact ⟨h1, h2⟩
    | succ i =>
      have := h5 i y q M (by simpa using e1) (by simpa using e2) (by simpa using e3)
      rw [show b0 + (i + 1) = b0 + 1 + i by omega]; exact this

/-- What is handed in, laid. -/
structure Handed (w : World) (v1 v2 v3 : Value) where
  h : Heap
  μ : Pl
  a1 : Value
  a2 : Value
  a3 : Value
  start : List Int
  progs : List (List (Int × Int))
  order : List Int
  hr : HR μ h w
  ro : allRo h.bs = true
  r1 : VR μ h.len a1 v1
  r2 : VR μ h.len a2 v2
  r3 : VR μ h.len a3 v3
  A1 : IntsAt (inpOf h) a1 start
  A2 : RowsAt (inpOf h) a2 progs
  A3 : IntsAt (inpOf h) a3 order
  len : start.length ≤ maxLen
  len2 : progs.length ≤ maxLen
  len3 : order.length ≤ maxLen
  len4 : ∀ p ∈ progs, p.length ≤ maxLen
  E3 : elemsOf h 1 order.length a3 = some (order.map fun z => Value.int .i64 z) ∨ (order = [] ∧ ∃ a, v3 = .slice (some a) 0 0)

theorem handed {ints : TypeId} (T : DeedT P rows row deed num) (hi : P.underlying ints = some (.slice num)) {f1 f2 f3 : Nat} {v1 v2 v3 : Value} {d1 d2 d3 : DataW H × List MemPlace}
    (h1 : DataW.trod enc P w base (fun _ => true) held f1 ints [v1] = some d1) (h2 : DataW.trod enc P w base (fun _ => true) held f2 rows [v2] = some d2) (h3 : DataW.trod enc P w base (fun _ => true) held f3 ints [v3] = some d3) : Nonempty (Handed w v1 v2 v3) := by
  obtain ⟨start, L1, len1, s1, i1⟩ := stand_ints hi T.numT T.c1 h1 0
  obtain ⟨order, L3, len3, s3, i3, e3⟩ := stand_ints2 hi T.numT T.c1 h3 1
  -- the rows' cells
  have outer : ∃ (l : List Value) (ob : Blk → Prop), (∀ x ∈ l, ∃ (fuel : Nat) (d : DataW H × List MemPlace), DataW.trod enc P w base (fun _ => true) held fuel row [x] = some d) ∧ l.length ≤ maxLen ∧
      ((l = [] ∧ v2 = .slice none 0 0) ∨ (l = [] ∧ ∃ a, v2 = .slice (some a) 0 0) ∨ ∃ b off cap C e fz, v2 = .slice (some ⟨b, off, none⟩) l.length cap ∧ w.heap[b]? = some (.cells C e fz) ∧ off + l.length ≤ C.size ∧ ∀ (i : Nat) (x : Value), l[i]? = some x → C[off + i]? = some x) := by
    rcases DataW.trod_slice T.rowsT h2 with ⟨hx, _⟩ | ⟨a, len, cap, elems, rest, n, _, hx, _, hb, hl, hm, hlen, hel, hsp, _⟩
    · simp only [List.cons.injEq, and_true] at hx; subst hx
      exact ⟨[], fun _ => True, fun x hx => by simp at hx, by simp, .inl ⟨rfl, rfl⟩⟩
    · simp only [List.cons.injEq, and_true] at hx; subst hx
      obtain ⟨hrl, hr⟩ := hsp rfl
      by_cases h0 : cap = 0
      · subst h0
        have : len = 0 := by omega
        subst this
        exact ⟨[], fun _ => True, fun x hx => by simp at hx, by simp, .inr (.inl ⟨rfl, a, rfl⟩)⟩
      · rw [T.c3] at hel hr
        simp only [Nat.mul_one] at hel hr
        have each : ∀ i, i < cap → ∃ x y, w.cell? (a.add i) = some x ∧ DataW.trod enc P w base (fun _ => true) held n row [x] = some y := by
          intro i hi
          have : ∃ y, (w.cells? base (a.add i) 1).bind (DataW.trod enc P w base (fun _ => true) held n row) = some y := by
            by_cases hil : i < len
            · exact ⟨_, (hel i hil).trans (List.getElem?_eq_getElem (by omega))⟩
            · have := hr (i - len) (by omega)
              rw [show len + (i - len) = i by omega] at this
              exact ⟨_, this.trans (List.getElem?_eq_getElem (by omega))⟩
          obtain ⟨y, hy⟩ := this
          rw [Option.bind_eq_some_iff] at hy
          obtain ⟨cs, g1, g2⟩ := hy
          obtain ⟨_, gl, g3⟩ := World.cells?_some g1
          match cs, gl with
          | [x], _ =>
            have e0 := g3 0 (by omega)
            have add0 : ∀ a : Addr, a.add 0 = a := fun a => by simp [Addr.add]
            rw [add0] at e0
            exact ⟨x, y, e0, g2⟩
        obtain ⟨bb, off, rfl, C, ee, fz, hbb, hsz, hall⟩ := wrow (w := w) (a := a) (n := cap) (by omega) (fun i hi => by obtain ⟨x, _, e, _⟩ := each i hi; exact ⟨x, e⟩)
        have hC : ∀ i, i < cap → ∃ x y, C[off + i]? = some x ∧ DataW.trod enc P w base (fun _ => true) held n row [x] = some y := fun i hi => by
          obtain ⟨x, y, e1, e2⟩ := each i hi; exact ⟨x, y, by rw [← hall]; exact e1, e2⟩
        refine ⟨(List.range len).map fun i => (C[off + i]?).getD undef, fun _ => True, ?_, by simp; omega, .inr (.inr ⟨bb, off, cap, C, ee, fz, by simp, hbb, by simp; omega, ?_⟩)⟩
        · intro x hx
          obtain ⟨i, hi, rfl⟩ := List.mem_map.1 hx
          obtain ⟨x, y, e1, e2⟩ := hC i (by have := List.mem_range.1 hi; omega)
          rw [e1]; exact ⟨n, y, e2⟩
        · intro i x hx
          have hil := (List.getElem?_eq_some_iff.1 hx).1
          simp only [List.length_map, List.length_range] at hil
          simp only [List.getElem?_map, List.getElem?_range hil, Option.map_some, Option.some.injEq] at hx
          obtain ⟨x', y, e1, _⟩ := hC i (by omega)
          rw [e1] at hx ⊢
          simpa using hx
  obtain ⟨l, _, hl, hll, hv2⟩ := outer
  obtain ⟨ps, Ls, hp1, hp2, hpl, hall⟩ := inners T l hl 2
  -- the rows' own block
  obtain ⟨ov, oy, op, hov⟩ : ∃ (ov : Value) (oy : Blk) (op : AM.Place), (oy = .dead ∧ ps = [] ∧ (∃ b c, ov = .slice b 0 c) ∧ (∀ (μ : Pl) (n : Nat), 2 + l.length < n → VR μ n ov v2)) ∨
      ∃ b off cap C e fz, oy = .ro (Ls.map (·.v)) ∧ op = ⟨b, off, 0⟩ ∧ ov = .slice (some ⟨2 + l.length, 0, none⟩) l.length cap ∧ v2 = .slice (some ⟨b, off, none⟩) l.length cap ∧ w.heap[b]? = some (.cells C e fz) ∧ off + l.length ≤ C.size ∧ ∀ (i : Nat) (x : Value), l[i]? = some x → C[off + i]? = some x := by
    rcases hv2 with ⟨rfl, rfl⟩ | ⟨rfl, a, rfl⟩ | ⟨b, off, cap, C, e, fz, e1, e2, e3, e4⟩
    · exact ⟨.slice none 0 0, .dead, ⟨0, 0, 0⟩, .inl ⟨rfl, List.eq_nil_of_length_eq_zero hp1, ⟨none, 0, rfl⟩, fun μ n _ => .nilslice 0 0⟩⟩
    · exact ⟨.slice (some ⟨2, 0, none⟩) 0 0, .dead, ⟨0, 0, 0⟩, .inl ⟨rfl, List.eq_nil_of_length_eq_zero hp1, ⟨_, 0, rfl⟩, fun μ n hn => .empty 2 0 a (by simpa using hn)⟩⟩
    · exact ⟨_, _, _, .inr ⟨b, off, cap, C, e, fz, rfl, rfl, rfl, e1, e2, e3, e4⟩⟩
  -- the heap
  obtain ⟨h, hh⟩ : ∃ h : Heap, h = ⟨[L1.y, L3.y] ++ Ls.map (·.y) ++ [oy]⟩ := ⟨_, rfl⟩
  have hlen : h.len = l.length + 3 := by rw [hh]; simp [Heap.len, hp2]
  let pl : List AM.Place := [L1.p, L3.p] ++ Ls.map (·.p) ++ [op]
  let μ : Pl := fun b => pl.getD b ⟨0, 0, 0⟩
  have b0 : h.bs[0]? = some L1.y := by rw [hh]; rfl
  have b1 : h.bs[1]? = some L3.y := by rw [hh]; rfl
  have bi : ∀ (i : Nat) (L : Laid w), Ls[i]? = some L → h.bs[2 + i]? = some L.y := by
    intro i L hL
    have hi := (List.getElem?_eq_some_iff.1 hL).1
    rw [hh]
    show ([L1.y, L3.y] ++ Ls.map (·.y) ++ [oy])[2 + i]? = _
    rw [List.append_assoc, List.getElem?_append_right (by simp), List.getElem?_append_left (by simp; omega)]
    simp [hL]
  have bo : h.bs[2 + l.length]? = some oy := by
    rw [hh]
    show ([L1.y, L3.y] ++ Ls.map (·.y) ++ [oy])[2 + l.length]? = _
    rw [List.append_assoc, List.getElem?_append_right (by simp), List.getElem?_append_right (by simp [hp2])]
    simp [hp2]
  have m0 : μ 0 = L1.p := rfl
  have m1 : μ 1 = L3.p := rfl
  have mi : ∀ (i : Nat) (L : Laid w), Ls[i]? = some L → μ (2 + i) = L.p := by
    intro i L hL
    have hi := (List.getElem?_eq_some_iff.1 hL).1
    show ([L1.p, L3.p] ++ Ls.map (·.p) ++ [op]).getD (2 + i) ⟨0, 0, 0⟩ = _
    rw [List.getD_eq_getElem?_getD, List.append_assoc, List.getElem?_append_right (by simp), List.getElem?_append_left (by simp; omega)]
    simp [hL]
  have mo : μ (2 + l.length) = op := by
    show ([L1.p, L3.p] ++ Ls.map (·.p) ++ [op]).getD (2 + l.length) ⟨0, 0, 0⟩ = _
    rw [List.getD_eq_getElem?_getD, List.append_assoc, List.getElem?_append_right (by simp), List.getElem?_append_right (by simp [hp2])]
    simp [hp2]
  have st : ∀ (i : Nat) (x : Value) (L : Laid w), l[i]? = some x → Ls[i]? = some L → Stand w L (2 + i) x := by
    intro i x L hx hL
    have hi := (List.getElem?_eq_some_iff.1 hx).1
    exact (hall i x (ps[i]'(by omega)) L hx (List.getElem?_eq_getElem (by omega)) hL).1
  -- each block
  have each : ∀ b y, h.bs[b]? = some y → (b = 0 ∧ y = L1.y) ∨ (b = 1 ∧ y = L3.y) ∨ (∃ i L, b = 2 + i ∧ Ls[i]? = some L ∧ y = L.y) ∨ (b = 2 + l.length ∧ y = oy) := by
    intro b y hy
    have hb := lt_len hy
    rw [hlen] at hb
    by_cases e0 : b = 0
    · subst e0; rw [b0] at hy; exact .inl ⟨rfl, by simpa using hy.symm⟩
    · by_cases e1 : b = 1
      · subst e1; rw [b1] at hy; exact .inr (.inl ⟨rfl, by simpa using hy.symm⟩)
      · by_cases e2 : b = 2 + l.length
        · subst e2; rw [bo] at hy; exact .inr (.inr (.inr ⟨rfl, by simpa using hy.symm⟩))
        · right; right; left
          have hL : Ls[b - 2]? = some (Ls[b - 2]'(by omega)) := List.getElem?_eq_getElem (by omega)
          refine ⟨b - 2, _, by omega, hL, ?_⟩
          have := bi _ _ hL
          rw [show 2 + (b - 2) = b by omega, hy] at this
          simpa using this
  have own : ∀ (b : Nat) (y : Blk), h.bs[b]? = some y → y.own = false := by
    intro b y hy
    rcases each b y hy with ⟨_, rfl⟩ | ⟨_, rfl⟩ | ⟨i, L, _, hL, rfl⟩ | ⟨_, rfl⟩
    · exact s1.own
    · exact s3.own
    · have hi := (List.getElem?_eq_some_iff.1 hL).1
      exact (st i (l[i]'(by omega)) L (List.getElem?_eq_getElem (by omega)) hL).own
    · rcases hov with ⟨rfl, _⟩ | ⟨_, _, _, _, _, _, rfl, _⟩ <;> rfl
  have hr : HR μ h w := by
    refine ⟨fun b y hy => ?_, fun a b x y hx _ ho _ => by rw [own a x hx] at ho; simp at ho⟩
    rcases each b y hy with ⟨rfl, rfl⟩ | ⟨rfl, rfl⟩ | ⟨i, L, rfl, hL, rfl⟩ | ⟨rfl, rfl⟩
    · rw [m0]; exact s1.blk μ h.len
    · rw [m1]; exact s3.blk μ h.len
    · have hi := (List.getElem?_eq_some_iff.1 hL).1
      rw [mi i L hL]
      exact (st i (l[i]'(by omega)) L (List.getElem?_eq_getElem (by omega)) hL).blk μ h.len
    · rw [mo]
      rcases hov with ⟨rfl, _⟩ | ⟨b, off, cap, C, e, fz, rfl, rfl, _, _, hb, hsz, hC⟩
      · trivial
      · refine ⟨C, e, fz, hb, ⟨by simp [hp2]; exact hsz, fun i v hv => ?_⟩, rfl⟩
        have hi := (List.getElem?_eq_some_iff.1 hv).1
        simp only [List.length_map] at hi
        have hL : Ls[i]? = some Ls[i] := List.getElem?_eq_getElem hi
        have hx : l[i]? = some (l[i]'(by omega)) := List.getElem?_eq_getElem (by omega)
        rw [List.getElem?_map, hL] at hv
        simp only [Option.map_some, Option.some.injEq] at hv; subst hv
        exact ⟨_, hC i _ hx, (st i _ _ hx hL).vr μ h.len (mi i _ hL) (by omega)⟩
  have ro : allRo h.bs = true := by
    unfold allRo
    rw [List.all_eq_true]
    intro y hy
    obtain ⟨b, hb⟩ := List.getElem?_of_mem hy
    rcases each b y hb with ⟨_, rfl⟩ | ⟨_, rfl⟩ | ⟨i, L, _, hL, rfl⟩ | ⟨_, rfl⟩
    · rcases s1.ro with e | ⟨c, e⟩ <;> rw [e]
    · rcases s3.ro with e | ⟨c, e⟩ <;> rw [e]
    · have hi := (List.getElem?_eq_some_iff.1 hL).1
      rcases (st i (l[i]'(by omega)) L (List.getElem?_eq_getElem (by omega)) hL).ro with e | ⟨c, e⟩ <;> rw [e]
    · rcases hov with ⟨rfl, _⟩ | ⟨_, _, _, _, _, _, rfl, _⟩ <;> rfl
  refine ⟨⟨h, μ, L1.v, ov, L3.v, start, ps, order, hr, ro, s1.vr μ h.len m0 (by omega), ?_, s3.vr μ h.len m1 (by omega), i1 _ b0, ?_, i3 _ b1, len1, by omega, len3, hpl, e3.imp (fun e => e h b1) id⟩⟩
  · rcases hov with ⟨_, _, _, hvr⟩ | ⟨b, off, cap, C, e, fz, _, rfl, rfl, rfl, hb, hsz, hC⟩
    · exact hvr μ h.len (by omega)
    · have := VR.slice (μ := μ) (n := h.len) (2 + l.length) 0 l.length cap (by omega)
      rw [mo] at this
      simpa using this
  · rcases hov with ⟨_, rfl, ⟨b, c, rfl⟩, _⟩ | ⟨b, off, cap, C, e, fz, rfl, _, rfl, _, _, _, _⟩
    · exact .inl ⟨rfl, b, c, rfl⟩
    · refine .inr ⟨2 + l.length, 0, cap, Ls.map (·.v), by rw [hp1], ?_, ?_⟩
      · show (h.bs[2 + l.length]?).bind rowOf = _; rw [bo]; rfl
      · intro i p hp
        have hi := (List.getElem?_eq_some_iff.1 hp).1
        have hL : Ls[i]? = some (Ls[i]'(by omega)) := List.getElem?_eq_getElem (by omega)
        have hx : l[i]? = some (l[i]'(by omega)) := List.getElem?_eq_getElem (by omega)
        refine ⟨(Ls[i]'(by omega)).v, by rw [Nat.zero_add, Nat.mul_one, List.getElem?_map, hL]; rfl, ?_⟩
        exact (hall i _ p _ hx hp hL).2 _ (bi i _ hL)
end
end Go.Ha

/-
  Hands: the law HandsAlone returns true.
-/
import Derived.Test.YtejokpfeepbfeaaHaG
set_option linter.unusedSimpArgs false
set_option linter.unusedVariables false
set_option linter.unnecessarySimpa false
namespace Go.Ha
open Go.AM Go.Proofs.YtejokpfeepbfeaaAm

section
variable {h : Heap} {v1 : Value} {start : List Int} {algo kd k : Int}

theorem alone_ok (A1 : IntsAt (inpOf h) v1 start) (hs : start.length < 9223372036854775808) (n : Nat) (hn : 30000 < n) (hn1 : start.length < n) :
    ∃ h', run (n + 7) 5 [.int .i64 algo, v1, .agg #[.int .i64 kd, .int .i64 k]] h = some (.ret (.bool true) h') := by
  rw [run, callR_succ, eq5]
  obtain ⟨ha, da⟩ : ∃ ha, ha = h.push (.cells [.int .i64 kd, .int .i64 k] 0 false) := ⟨_, rfl⟩
  obtain ⟨hb, db⟩ : ∃ hb, hb = ha.push (.cells [.int .i64 kd, .int .i64 k] 0 false) := ⟨_, rfl⟩
  obtain ⟨hc, dc⟩ : ∃ hc, hc = hb.push (.cells [.slice (some ⟨ha.len, 0, none⟩) 1 1] 0 false) := ⟨_, rfl⟩
  have la : ha.len = h.len + 1 := by rw [da, push_len]
  have lb : hb.len = h.len + 2 := by rw [db, push_len, la]
  have lc : hc.len = h.len + 3 := by rw [dc, push_len, lb]
  have ea : boxR 2 h (.agg #[.int .i64 kd, .int .i64 k]) = some (.ret (pt h.len) ha) := by rw [da]; exact Eq.trans rfl rfl
  have ca : ha.bs[h.len]? = some (.cells [.int .i64 kd, .int .i64 k] 0 false) := by rw [da]; exact push_new
  have eb0 := ldNR_row ca
  have eb : buildSliceR 1 [(.int .i64 0), (.int .i64 0)] ha [(0, 2, .agg #[.int .i64 kd, .int .i64 k])] = some (.ret (.slice (some ⟨ha.len, 0, none⟩) 1 1) hb) := by rw [db]; exact Eq.trans rfl rfl
  have cb : hb.bs[ha.len]? = some (.cells [.int .i64 kd, .int .i64 k] 0 false) := by rw [db]; exact push_new
  have ec : buildSliceR 1 [(.slice none 0 0)] hb [(0, 1, (.slice (some ⟨ha.len, 0, none⟩) 1 1))] = some (.ret (.slice (some ⟨hb.len, 0, none⟩) 1 1) hc) := by rw [dc]; exact Eq.trans rfl rfl
  have cc : hc.bs[hb.len]? = some (.cells [.slice (some ⟨ha.len, 0, none⟩) 1 1] 0 false) := by rw [dc]; exact push_new
  have kc : ∀ (b : Nat) (y : Blk), h.bs[b]? = some y → hc.bs[b]? = some y := fun b y e => by rw [dc, db, da]; exact push_old (push_old (push_old e))
  have cac : hc.bs[h.len]? = some (.cells [.int .i64 kd, .int .i64 k] 0 false) := by rw [dc, db]; exact push_old (push_old ca)
  have cbc : hc.bs[ha.len]? = some (.cells [.int .i64 kd, .int .i64 k] 0 false) := by rw [dc]; exact push_old cb
  have A1c : IntsAt (inpOf hc) v1 start := A1.mono kc
  have A3c : IntsAt (inpOf hc) (.slice none 0 0) [] := .inl ⟨rfl, none, 0, rfl⟩
  have A2c : RowsAt (inpOf hc) (.slice (some ⟨hb.len, 0, none⟩) 1 1) [[(kd, k)]] := .inr ⟨hb.len, 0, 1, _, rfl, bs_row cc, fun i x hx => by
    match i, hx with
    | 0, hx =>
      simp at hx; subst hx
      exact ⟨_, rfl, .inr ⟨ha.len, 0, 1, _, rfl, bs_row cbc, fun i a b hx => by
        match i, hx with
        | 0, hx => simp at hx; obtain ⟨rfl, rfl⟩ := hx; exact ⟨rfl, rfl⟩⟩⟩⟩
  by_cases hr : rightE algo start [[(kd, k)]] [] = 0
  · obtain ⟨h1, w1, w2, r1, g1, g2, B1, le1⟩ := run_ok A1c A2c A3c hr (n + 1) (by omega)
    obtain ⟨f, is, j, t1, t2, t3, t4, t5, t6⟩ := solo_run hr
    have hhas := fun hk : 0 ≤ k ∧ k ≤ 9 => solo_has hr t3 hk t4 t5
    obtain ⟨ra, rl, ro, rp, rs⟩ := rightE_ok hr
    have hk : 0 ≤ k ∧ k ≤ 9 := ((rp [(kd, k)] List.mem_cons_self).2 (kd, k) List.mem_cons_self).key
    have hlen := start_len rs
    replace hhas := hhas hk
    rw [t1] at g1
    obtain ⟨x1, x2, x3, hw1⟩ := g1.cell
    obtain ⟨y1, y2, y3, hw2⟩ := g2.cell
    obtain ⟨h2, d2⟩ : ∃ h2, h2 = h1.push (.cells [.slice none 0 0, .slice none 0 0] 0 false) := ⟨_, rfl⟩
    have e8 : newR h1 [(.slice none 0 0), (.slice none 0 0)] = some (.ret (pt h1.len) h2) := by rw [d2]; exact Eq.trans rfl rfl
    have c7 : h2.bs[h1.len]? = some (.cells [.slice none 0 0, .slice none 0 0] 0 false) := by rw [d2]; exact push_new
    have e9 := stNR_row (x := w1) (y := w2) c7 (by rw [hw1, hw2]; rfl)
    obtain ⟨h3, d3⟩ : ∃ h3, h3 = h2.upd h1.len (.cells [w1, w2] 0 false) := ⟨_, rfl⟩
    rw [← d3] at e9
    have c3 : h3.bs[h1.len]? = some (.cells [w1, w2] 0 false) := by rw [d3]; exact upd_eq c7
    have l2 : h2.len = h1.len + 1 := by rw [d2, push_len]
    have l3 : h3.len = h1.len + 1 := by rw [d3, upd_len, l2]
    have keep3 : ∀ (b : Nat) (y : Blk), h1.bs[b]? = some y → h3.bs[b]? = some y := fun b y e => by
      have := lt_len e
      rw [d3, upd_ne (by omega), d2]; exact push_old e
    obtain ⟨h4, r4, B4, le4⟩ := lives_ok h3 n (by omega)
    have q1 : extr 0 (.tuple #[.agg #[w1, w2], .int .i64 0]) = some (.agg #[w1, w2]) := rfl
    have q2 : extr 1 (.tuple #[.agg #[w1, w2], .int .i64 0]) = some (.int .i64 0) := rfl
    have q3 : ((0 : Int) != 0) = false := rfl
    have red : f5 (callR Go.Proofs.Try.prog cfg (n + 6)) (n + 6) (.int .i64 algo) v1 (.agg #[.int .i64 kd, .int .i64 k]) h = f5j1 (run (n + 6)) (n + 6) v1 (pt h.len) (pt h1.len) h4 := by
      simp only [run, pt] at r1 e8 e9 r4 ea eb0 eb ec ⊢
      simp only [f5, bindR_ret, ea, eb0, eb, ec, r1, q1, q2, pureR_some, e8, e9, r4, unV_not, Bool.not_true, gd_ff, intB_neq, q3, pickV_f, ifR_false]
    rw [red]
    have kh4 : ∀ (b : Nat) (y : Blk), hc.bs[b]? = some y → h4.bs[b]? = some y := fun b y e => B4 b y (by have := lt_len e; omega) (keep3 b y (B1 b y (lt_len e) e))
    have c4 : h4.bs[h1.len]? = some (.cells [w1, w2] 0 false) := B4 _ _ (by omega) c3
    have ext1 : ∀ (b : Nat) (y : Blk), h1.bs[b]? = some y → h4.bs[b]? = some y := fun b y e => B4 b y (by have := lt_len e; omega) (keep3 b y e)
    have A4 : IntsAt (inpOf h4) v1 start := A1c.mono kh4
    obtain ⟨h5, r5, B5, le5⟩ := keyset_ok A4 (n + 4) (by omega) hs
    have D5 : DonesAt h5 w1 [⟨0, 0, 0, f, is⟩] := ((GRow.dones g1).ext ext1).ext fun b y e => B5 b y (lt_len e) e
    have A5 : IntsAt (inpOf h5) v1 start := A4.mono fun b y e => B5 b y (lt_len e) e
    have ck4 : h4.bs[h.len]? = some (.cells [.int .i64 kd, .int .i64 k] 0 false) := kh4 _ _ cac
    have ck5 : h5.bs[h.len]? = some (.cells [.int .i64 kd, .int .i64 k] 0 false) := B5 _ _ (lt_len ck4) ck4
    have cw5 : h5.bs[h1.len]? = some (.cells [w1, w2] 0 false) := B5 _ _ (lt_len c4) c4
    obtain ⟨b, i0, i1, i2, i3⟩ := D5.get (i := 0) rfl
    have p0 : ldR h5 (.pointer (some ⟨h.len, 0 + 0, none⟩)) = some (.ret (.int .i64 kd) h5) := ldR_cells ck5 rfl
    have p1 : ldR h5 (.pointer (some ⟨h.len, 0 + 1, none⟩)) = some (.ret (.int .i64 k) h5) := ldR_cells ck5 rfl
    have pw : ldR h5 (.pointer (some ⟨h1.len, 0 + 0, none⟩)) = some (.ret w1 h5) := ldR_cells cw5 rfl
    have pag : agn1 h4 (.pointer (some ⟨h.len, 0 + 1, none⟩)) (.int .i64 k) = true := by
      have : ld1 h4 (.pointer (some ⟨h.len, 0 + 1, none⟩)) = some (.int .i64 k) := by simp only [ld1, Heap.row, ck4, Option.bind_some]; rfl
      simp [agn1, this, veq]
    have ixa := barr_agg (keysOf start) hk
    have D5l := D5.len
    have A5l := A5.len (h := h5)
    have mul3 : intB .mul (.int .i64 3) (.int .i64 (start.length : Nat)) = some (.int .i64 (3 * start.length)) := by
      have : IntKind.i64.wrap (3 * (start.length : Int)) = 3 * start.length := wrap_in (by omega)
      simp [intB, isShift, intV, this]
    have add8 : intB .add (.int .i64 (3 * start.length)) (.int .i64 8) = some (.int .i64 (3 * start.length + 8)) := by
      have : IntKind.i64.wrap (3 * (start.length : Int) + 8) = 3 * start.length + 8 := wrap_in (by omega)
      simp [intB, isShift, intV, this]
    have u1 : (((([⟨0, 0, 0, f, is⟩] : List Dn).length : Nat) : Int) == 1) = true := rfl
    have u2 : decide (((f : Nat) : Int) ≥ 0) = true := by simp
    have u3 : decide (((f : Nat) : Int) < 3 * start.length + 8) = true := by simp; omega
    have hkeys : keysOf start k.toNat = ((node0 start (j + 1)).key == k) := by
      rw [Bool.eq_iff_iff, keysOf_iff, beq_iff_eq, show ((k.toNat : Nat) : Int) = k by omega]; exact hhas
    have u4 : (is == (keysOf start k.toNat == (kd != 1))) = true := by rw [hkeys, t6]; simp
    refine ⟨h5, ?_⟩
    simp only [run, pt] at r5 i0 i1 i2 i3 ⊢
    have i0' : idxS 5 w1 (.int .i64 0) = some (.pointer (some ⟨b, 0 * 5, none⟩)) := i0
    have gT : guardR (true && true) = fun r => r := rfl
    simp only [f5j1, noPan_ret, Bool.and_true, Bool.true_and, guardR_true, bindR_ret, r5, padd_q, pureR_some, p1, pag, ixa, pw, D5l, intB_eql, u1, gd_tt, i0', i2, intB_geq, u2, pickV_t, A5l, mul3, add8, intB_lss, u3, i3, p0, intB_neq, boolE_b, eqNeq_eql, u4, clean, cond_true, Option.bind_some, tup]
  · obtain ⟨h1, r1, B1, le1⟩ := run_err A1c A2c A3c hs hr (n + 4) (by omega) (by omega)
    obtain ⟨h2, d2⟩ : ∃ h2, h2 = h1.push (.cells [.slice none 0 0, .slice none 0 0] 0 false) := ⟨_, rfl⟩
    have e8 : newR h1 [(.slice none 0 0), (.slice none 0 0)] = some (.ret (pt h1.len) h2) := by rw [d2]; exact Eq.trans rfl rfl
    have c7 : h2.bs[h1.len]? = some (.cells [.slice none 0 0, .slice none 0 0] 0 false) := by rw [d2]; exact push_new
    have e9 := stNR_row (x := .slice none 0 0) (y := .slice none 0 0) c7 rfl
    obtain ⟨h3, d3⟩ : ∃ h3, h3 = h2.upd h1.len (.cells [.slice none 0 0, .slice none 0 0] 0 false) := ⟨_, rfl⟩
    rw [← d3] at e9
    obtain ⟨h4, r4, B4, le4⟩ := lives_ok h3 n (by omega)
    obtain ⟨h5, r5, B5, le5⟩ := lives_ok h4 n (by omega)
    have q1 : extr 0 (.tuple #[.agg #[.slice none 0 0, .slice none 0 0], .int .i64 (rightE algo start [[(kd, k)]] [])]) = some (.agg #[.slice none 0 0, .slice none 0 0]) := rfl
    have q2 : extr 1 (.tuple #[.agg #[.slice none 0 0, .slice none 0 0], .int .i64 (rightE algo start [[(kd, k)]] [])]) = some (.int .i64 (rightE algo start [[(kd, k)]] [])) := rfl
    have q3 : (rightE algo start [[(kd, k)]] [] != 0) = true := by simpa using hr
    refine ⟨h5, ?_⟩
    simp only [run, pt] at r1 e8 e9 r4 r5 ea eb0 eb ec
    simp only [f5, bindR_ret, ea, eb0, eb, ec, r1, q1, q2, pureR_some, e8, e9, r4, unV_not, Bool.not_true, gd_ff, intB_neq, q3, pickV_f, ifR_true, r5, clean, cond_true, Option.bind_some, tup]
end
end Go.Ha

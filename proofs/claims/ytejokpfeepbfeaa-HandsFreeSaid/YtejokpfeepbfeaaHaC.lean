/-
  Hands: Run lays the list, the table and the hands.
  Hands: Run lays the table and the hands.
  Hands: Run answers what the model answers.
  Hands: Run answers what the model answers: the whole.
  Hands: the list as a set: who can be reached, and what a step may do to the beads.
  Hands: who holds which lock.
  Hands: what holds of marks and locks, by algorithms.
  Hands: what holds of marks and locks: the steps of those that lock.
-/
import Derived.Test.YtejokpfeepbfeaaHaB
set_option linter.unusedSimpArgs false
set_option linter.unusedVariables false
set_option linter.unnecessarySimpa false
namespace Go.Ha
open Go.AM Go.Proofs.YtejokpfeepbfeaaAm

/-- The beads at the begin. -/
def node0 (start : List Int) (i : Nat) : Nd :=
  if i = 0 then ⟨-1, some 1, false, false⟩ else if i ≤ start.length then ⟨start.getD (i - 1) 0, some (i + 1), false, false⟩ else ⟨10, none, false, false⟩

def sys0 (algo : Int) (start : List Int) (progs : List (List (Int × Int))) : Sys :=
  { algo := algo, nodes := node0 start, nn := start.length + 2, hands := fun j => ⟨progs.getD j [], 0, none, none, none, false⟩, nh := progs.length, now := 0, told := fun _ => [] }

/-- Where the beads lie: the last one first. -/
def nb0 (b0 n : Nat) (i : Nat) : Nat := b0 + (n + 1 - i)

section
variable {inp : Inp} {h : Heap}

theorem RowsAt.vals {v : Value} {l : List (List (Int × Int))} (A : RowsAt inp v l) : ∃ pv : Nat → Value, ∀ h, InpOk inp h → ∀ (i : Nat) x, l[i]? = some x → ∃ a, idxS 1 v (.int .i64 i) = some a ∧ ldR h a = some (.ret (pv i) h) ∧ ProgAt inp (pv i) x := by
  rcases A with ⟨rfl, _⟩ | ⟨b, o, c, r, rfl, h1, h2⟩
  · exact ⟨fun _ => undef, fun h _ i x hx => by simp at hx⟩
  · refine ⟨fun i => (r[o + i * 1]?).getD undef, fun h I i x hx => ?_⟩
    obtain ⟨w, h3, h4⟩ := h2 i x hx
    refine ⟨_, idxS_nat (List.getElem?_eq_some_iff.1 hx).1, ldR_inp I h1 ?_, ?_⟩
    · dsimp only; rw [h3]; rfl
    · dsimp only; rw [h3]; exact h4

theorem push_len (h : Heap) (x : Blk) : (h.push x).len = h.len + 1 := by simp [Heap.push, Heap.len]

theorem box4 (h : Heap) (k : Int) (a : Option Addr) : boxR 4 h (.agg #[.int .i64 k, .pointer a, .bool false, .bool false]) = some (.ret (pt h.len) (h.push (.cells [.int .i64 k, .pointer a, .bool false, .bool false] 0 false))) := Eq.trans rfl rfl

theorem cond_beq (n : Nat) (x y : Res) : cond (Nat.beq n n) x y = x := by
  have : Nat.beq n n = true := by simp
  rw [this]; rfl

theorem fill_nd' (k : Int) (b : Nat) : (fillL [.int .i64 0, .pointer none, .bool false, .bool false] [(0, 1, .int .i64 k), (1, 1, pt b)]).map (fun c => Value.agg c.toArray) =
    some (.agg #[.int .i64 k, pt b, .bool false, .bool false]) := rfl

/-- The loop that lays the beads. -/
theorem list_ok {v1 : Value} {start : List Int} (A1 : IntsAt inp v1 start) {h2 : Heap} (I : InpOk inp h2) (hlen : start.length < 1000000) (a0 v2 v3 t8 : Value) (cr : FuncId → List Value → Heap → Res) (m : Nat) (hm : start.length + 1 < m) (Q : Res → Prop)
    (cont : ∀ h, Below h2.len h2 h → h.len = h2.len + start.length + 1 → (∀ i, 1 ≤ i → i ≤ start.length + 1 → h.bs[nb0 h2.len start.length i]? = some (.cells (ndC (nb0 h2.len start.length) (node0 start i)) 0 false)) →
      Q (f9j2 cr m a0 v2 v3 t8 (pt (nb0 h2.len start.length 1)) h)) : Q (f9j1 cr m a0 v1 v2 v3 t8 h2) := by
  have e0 : (fillL [.int .i64 0, .pointer none, .bool false, .bool false] [(0, 1, .int .i64 10)]).map (fun c => Value.agg c.toArray) = some (.agg #[.int .i64 10, .pointer none, .bool false, .bool false]) := rfl
  have hsub : intB .sub (.int .i64 (start.length : Nat)) (.int .i64 1) = some (.int .i64 ((start.length : Nat) - 1)) := by
    have : IntKind.i64.wrap (((start.length : Nat) : Int) - 1) = ((start.length : Nat) : Int) - 1 := wrap_in (by omega)
    simp [intB, isShift, intV, this]
  simp only [f9j1, e0, pureR_some, bindR_ret, box4 h2 10 none, A1.len, hsub]
  refine iterK_rule (σ := List Value) _ (fun k s h => k ≤ start.length ∧ s = [pt (nb0 h2.len start.length (k + 1)), .int .i64 ((k : Int) - 1)] ∧ Below h2.len h2 h ∧ h.len = nb0 h2.len start.length k ∧
      (∀ i, k < i → i ≤ start.length + 1 → h.bs[nb0 h2.len start.length i]? = some (.cells (ndC (nb0 h2.len start.length) (node0 start i)) 0 false)))
    Q ?_ m start.length _ _ (by omega) ⟨Nat.le_refl _, ?_, .push _ _, ?_, ?_⟩
  · rintro k nx s h ⟨hk, rfl, B, hl, hn⟩ ih
    simp only [List.headD_cons, List.tail_cons]
    cases k with
    | zero =>
      have hc : decide ((((0 : Nat) : Int) - 1) ≥ 0) = false := rfl
      simp only [f9j21, bindR_ret, intB_geq, pureR_some, hc, ifR_false, cond_beq]
      exact cont h B (by rw [hl]; unfold nb0; omega) (fun i h1 h3 => hn i (by omega) h3)
    | succ k =>
      have hc : decide ((((k + 1 : Nat) : Int) - 1) ≥ 0) = true := by simp
      have ek : (((k + 1 : Nat) : Int) - 1) = (k : Int) := by omega
      have hx : start[k]? = some start[k] := List.getElem?_eq_getElem (by omega)
      obtain ⟨a, e1, e2⟩ := A1.get (I.below B) hx
      have e3 : intB .sub (.int .i64 (k : Int)) (.int .i64 1) = some (.int .i64 ((k : Int) - 1)) := by
        have : IntKind.i64.wrap ((k : Int) - 1) = (k : Int) - 1 := wrap_in (by omega)
        simp [intB, isShift, intV, this]
      simp only [f9j21, bindR_ret, intB_geq, pureR_some, hc, ifR_true, f9j22, ek, e1, e2, fill_nd', pt, box4, f9j23, e3]
      refine ih k _ _ (by omega) ⟨by omega, by rw [hl], B.trans (.push _ _), by rw [push_len, hl]; unfold nb0; omega, ?_⟩
      intro i hi hi2
      by_cases e : i = k + 1
      · subst e
        rw [← hl, push_new]
        have : node0 start (k + 1) = ⟨start[k], some (k + 1 + 1), false, false⟩ := by
          unfold node0; rw [if_neg (by omega), if_pos (by omega)]; simp [hx]
        rw [this]; rfl
      · exact push_old (hn i (by omega) hi2)
  · have : nb0 h2.len start.length (start.length + 1) = h2.len := by unfold nb0; omega
    rw [this]
  · rw [push_len]; unfold nb0; omega
  · intro i h1 h3
    have : i = start.length + 1 := by omega
    subst this
    have e : nb0 h2.len start.length (start.length + 1) = h2.len := by unfold nb0; omega
    rw [e, push_new]
    have : node0 start (start.length + 1) = ⟨10, none, false, false⟩ := by
      unfold node0; rw [if_neg (by omega), if_neg (by omega)]
    rw [this]; rfl
end
end Go.Ha

namespace Go.Ha
open Go.AM Go.Proofs.YtejokpfeepbfeaaAm

/-- One element more: where all lies then. -/
theorem app_one {h : Heap} {w n bytes b0 : Nat} {v : Value} {cs new : List Value} {x : Value} (hv : (n = 0 ∧ v = .slice none 0 0 ∧ cs = []) ∨ (1 ≤ n ∧ v = .slice (some ⟨b0, 0, none⟩) n n ∧ h.bs[b0]? = some (.cells cs w false)))
    (g1 : cs.length = n * w) (hl : lenOf x = some 1) (he : elemsOf h w 1 x = some new) (hc : cellsOk new = true)
    (hn : new.length = 1 * w) (hw : 1 ≤ w) (h1 : n + 1 ≤ 100000) (h2 : bytes ≤ 1000) :
    ∃ h', appR w bytes h v x = some (.ret (.slice (some ⟨h.len, 0, none⟩) (n + 1) (n + 1)) h') ∧ h'.len = h.len + 1 ∧ h'.bs[h.len]? = some (.cells (cs ++ new) w false) ∧
      (∀ (i : Nat) (y : Blk), h.bs[i]? = some y → (n = 0 ∨ i ≠ b0) → h'.bs[i]? = some y) := by
  have b1 : Nat.ble ((n + 1) * bytes) 70368744177664 = true := by
    rw [Nat.ble_eq]; have := Nat.mul_le_mul h1 h2; omega
  have b2 : Nat.ble (n + 1) 70368744177664 = true := by rw [Nat.ble_eq]; omega
  have b3 : Nat.ble 1 w = true := by rw [Nat.ble_eq]; exact hw
  have b4 : Nat.beq new.length (1 * w) = true := by rw [Nat.beq_eq]; exact hn
  have hlt : Nat.ble (n + 1) n = false := by rw [← Bool.not_eq_true, Nat.ble_eq]; omega
  rcases hv with ⟨rfl, rfl, rfl⟩ | ⟨g3, rfl, g5⟩
  · refine ⟨h.push (.cells new w false), ?_, push_len _ _, push_new, fun i y e _ => push_old e⟩
    have k6 : elemsOf h w 0 (.slice none 0 0) = some [] := rfl
    simp only [appR, hl, he, Option.bind_some, hlt, cond_false, b1, b2, b3, b4, hc, Bool.and_true, cond_true, k6, roomOf, Heap.kill, List.nil_append]
  · refine ⟨(h.upd b0 .dead).push (.cells (cs ++ new) w false), ?_, ?_, ?_, ?_⟩
    · have k6 : elemsOf h w n (.slice (some ⟨b0, 0, none⟩) n n) = some cs := elems_row g5 g1
      have k7 : Nat.ble (0 + n * w) cs.length = true := by rw [Nat.ble_eq, g1]; omega
      have k8 : roomOf h w n (some ⟨b0, 0, none⟩) = some false := by
        simp only [roomOf, g5, k7, Bool.and_true]
        simp
      simp only [appR, hl, he, Option.bind_some, hlt, cond_false, b1, b2, b3, b4, hc, Bool.and_true, cond_true, k6, k8, Heap.kill, g5]
    · rw [push_len]; simp [Heap.len, Heap.upd]
    · have : (h.upd b0 .dead).len = h.len := by simp [Heap.len, Heap.upd]
      rw [← this]; exact push_new
    · intro i y e hi
      exact push_old (by rw [upd_ne (by omega)]; exact e)

theorem upd_len (h : Heap) (b : Nat) (x : Blk) : (h.upd b x).len = h.len := by simp [Heap.len, Heap.upd]

theorem zeros_get (z : Value) : ∀ (n j : Nat), j < n → (zeros [z] n)[j]? = some z := by
  intro n
  induction n with
  | zero => intro j hj; omega
  | succ n ih =>
    intro j hj
    cases j with
    | zero => rfl
    | succ j => simp only [zeros, List.cons_append, List.nil_append, List.getElem?_cons_succ]; exact ih j (by omega)

theorem ProgAt.slice {inp : Inp} {v : Value} {l : List (Int × Int)} (A : ProgAt inp v l) : ∃ b n c, v = .slice b n c := by
  rcases A with ⟨_, b, o, c, rfl, _⟩ | ⟨b, o, c, r, rfl, _⟩ <;> exact ⟨_, _, _, rfl⟩

def hd0 (p : List (Int × Int)) : Hd := ⟨p, 0, none, none, none, false⟩

/-- The hands that are laid so far. -/
structure HandsSt (algo : Int) (T TA n0 n : Nat) (progs : List (List (Int × Int))) (pv : Nat → Value) (hT h : Heap) (i : Nat) : Prop where
  len : h.len = T + 1 + 3 * i
  below : Below T hT h
  tab : h.bs[T]? = some (.cells [.int .i64 algo, pt n0, if i = 0 then .slice none 0 0 else .slice (some ⟨T + 3 * i, 0, none⟩) i i, .int .i64 (0 : Nat), .slice (some ⟨TA, 0, none⟩) n n] 0 false)
  row : 0 < i → h.bs[T + 3 * i]? = some (.cells ((List.range i).map fun j => pt (T + 1 + 3 * j)) 1 false)
  hands : ∀ j, j < i → h.bs[T + 1 + 3 * j]? = some (.cells (hdC (pv j) 0 (.pointer none) (.pointer none) (hd0 (progs.getD j []))) 0 false)

section
variable {inp : Inp}

theorem table_ok {v2 : Value} {progs : List (List (Int × Int))} (A2 : RowsAt inp v2 progs) (hp : progs.length < 1000) {pv : Nat → Value} (hpv : ∀ h, InpOk inp h → ∀ (i : Nat) x, progs[i]? = some x → ∃ a, idxS 1 v2 (.int .i64 i) = some a ∧ ldR h a = some (.ret (pv i) h) ∧ ProgAt inp (pv i) x)
    {h : Heap} (I : InpOk inp h) (algo : Int) (n1 : Nat) (v3 t8 : Value) (cr : FuncId → List Value → Heap → Res) (m : Nat) (hm : progs.length < m) (Q : Res → Prop)
    (cont : ∀ hT h', Below h.len h hT → hT.len = h.len + 2 → hT.bs[h.len]? = some (.cells [.int .i64 (-1), pt n1, .bool false, .bool false] 0 false) → hT.bs[h.len + 1]? = some (.cells (zeros [.slice none 0 0] progs.length) 0 false) →
      HandsSt algo (h.len + 2) (h.len + 1) h.len progs.length progs pv hT h' progs.length → Q (f9j3 cr m v2 v3 t8 (pt (h.len + 2)) h')) :
    Q (f9j2 cr m (.int .i64 algo) v2 v3 t8 (pt n1) h) := by
  have e1 := fill_nd' (-1) n1
  have hn1 : natOf (.int .i64 (progs.length : Nat)) = some progs.length := by
    have h1 : decide ((0 : Int) ≤ (progs.length : Nat)) = true := by simp
    have h2 : decide (((progs.length : Nat) : Int) ≤ 70368744177664) = true := by simp; omega
    simp only [natOf, h1, h2, Bool.and_true, cond_true]; rfl
  obtain ⟨h1, hh1⟩ : ∃ h1, h1 = h.push (.cells [.int .i64 (-1), pt n1, .bool false, .bool false] 0 false) := ⟨_, rfl⟩
  have l1 : h1.len = h.len + 1 := by rw [hh1, push_len]
  obtain ⟨hT, hhT⟩ : ∃ hT, hT = h1.push (.cells (zeros [.slice none 0 0] progs.length) 0 false) := ⟨_, rfl⟩
  have lT : hT.len = h.len + 2 := by rw [hhT, push_len, l1]
  have e2 : makeR [(.slice none 0 0)] 24 h1 (.int .i64 (progs.length : Nat)) (.int .i64 (progs.length : Nat)) = some (.ret (.slice (some ⟨h.len + 1, 0, none⟩) progs.length progs.length) hT) := by
    have b1 : Nat.ble progs.length progs.length = true := by simp
    have b2 : Nat.ble (progs.length * 24) 70368744177664 = true := by rw [Nat.ble_eq]; omega
    have b3 : cellsOk [.slice none 0 0] = true := rfl
    simp only [makeR, hn1, Option.bind_some, b1, b2, b3, Bool.and_true, cond_true, hhT, l1]
  have e3 : (fillL [(.int .i64 0), (.pointer none), (.slice none 0 0), (.int .i64 0), (.slice none 0 0)] [(0, 1, .int .i64 algo), (1, 1, pt h.len), (4, 1, .slice (some ⟨h.len + 1, 0, none⟩) progs.length progs.length)]).map (fun c => Value.agg c.toArray) =
    some (.agg #[.int .i64 algo, pt h.len, .slice none 0 0, .int .i64 0, .slice (some ⟨h.len + 1, 0, none⟩) progs.length progs.length]) := Eq.trans rfl rfl
  obtain ⟨h2, hh2⟩ : ∃ h2, h2 = hT.push (.cells [.int .i64 algo, pt h.len, .slice none 0 0, .int .i64 0, .slice (some ⟨h.len + 1, 0, none⟩) progs.length progs.length] 0 false) := ⟨_, rfl⟩
  have e4 : boxR 5 hT (.agg #[.int .i64 algo, pt h.len, .slice none 0 0, .int .i64 0, .slice (some ⟨h.len + 1, 0, none⟩) progs.length progs.length]) = some (.ret (pt (h.len + 2)) h2) := by
    rw [hh2, ← lT]; exact Eq.trans rfl rfl
  simp only [f9j2, bindR_ret, pureR_some, pt, box4] at e1 e3 e4 ⊢
  simp only [e1, bindR_ret, pureR_some, box4]
  simp only [pt] at hh1
  rw [← hh1]
  simp only [A2.len, bindR_ret, e2, e3, e4, pureR_some]
  have B0 : Below h.len h hT := by rw [hhT, hh1]; exact (Below.push _ _).trans (.push _ _)
  have t0 : hT.bs[h.len]? = some (.cells [.int .i64 (-1), pt n1, .bool false, .bool false] 0 false) := by rw [hhT, hh1]; exact push_old push_new
  have t1 : hT.bs[h.len + 1]? = some (.cells (zeros [.slice none 0 0] progs.length) 0 false) := by rw [hhT, ← l1]; exact push_new
  refine iterK_rule (σ := List Value) _ (fun k s h' => ∃ i : Nat, i + k = progs.length ∧ s = [.int .i64 i] ∧ HandsSt algo (h.len + 2) (h.len + 1) h.len progs.length progs pv hT h' i)
    Q ?_ m progs.length _ _ hm ⟨0, by omega, rfl, ⟨by rw [hh2, push_len, lT], by rw [hh2]; exact .push _ _, by rw [hh2, ← lT]; exact push_new, fun h => by omega, fun j hj => by omega⟩⟩
  rintro k nx s hc ⟨i, hi, rfl, P⟩ ih
  simp only [List.headD_cons]
  have Bc : Below h.len h hc := fun b y hb e => P.below b y (by omega) (B0 b y hb e)
  by_cases hlt : i < progs.length
  · have hcd : decide ((i : Int) < (progs.length : Nat)) = true := by simp; exact hlt
    have hx : progs[i]? = some progs[i] := List.getElem?_eq_getElem hlt
    obtain ⟨a, g1, g2, g3⟩ := hpv hc (I.below Bc) i _ hx
    obtain ⟨pb, pn, pc, g4⟩ := g3.slice
    have g5 : (fillL [(.slice none 0 0), (.int .i64 0), .nilFunc, (.pointer none), (.pointer none), (.bool false)] [(0, 1, pv i)]).map (fun c => Value.agg c.toArray) = some (.agg #[pv i, .int .i64 0, .nilFunc, .pointer none, .pointer none, .bool false]) := by rw [g4]; exact Eq.trans rfl rfl
    obtain ⟨hd, hhd⟩ : ∃ hd, hd = hc.push (.cells [pv i, .int .i64 0, .nilFunc, .pointer none, .pointer none, .bool false] 0 false) := ⟨_, rfl⟩
    have g6 : boxR 6 hc (.agg #[pv i, .int .i64 0, .nilFunc, .pointer none, .pointer none, .bool false]) = some (.ret (pt hc.len) hd) := by rw [hhd, g4]; exact Eq.trans rfl rfl
    have ld : hd.len = hc.len + 1 := by rw [hhd, push_len]
    obtain ⟨he, hhe⟩ : ∃ he, he = hd.push (.cells [pt hc.len] 0 false) := ⟨_, rfl⟩
    have g7 : buildSliceR 1 [(.pointer none)] hd [(0, 1, pt hc.len)] = some (.ret (.slice (some ⟨hd.len, 0, none⟩) 1 1) he) := by rw [hhe]; exact Eq.trans rfl rfl
    have le : he.len = hc.len + 2 := by rw [hhe, push_len, ld]
    have keep : ∀ (b : Nat) (y : Blk), hc.bs[b]? = some y → he.bs[b]? = some y := fun b y e => by rw [hhe, hhd]; exact push_old (push_old e)
    have hlenc := P.len
    obtain ⟨hf, f1, f2, f3, f4⟩ := app_one (h := he) (w := 1) (n := i) (bytes := 8) (b0 := h.len + 2 + 3 * i) (v := if i = 0 then .slice none 0 0 else .slice (some ⟨h.len + 2 + 3 * i, 0, none⟩) i i)
      (cs := (List.range i).map fun j => pt (h.len + 2 + 1 + 3 * j)) (new := [pt hc.len]) (x := .slice (some ⟨hd.len, 0, none⟩) 1 1)
      (by by_cases h0 : i = 0
          · left; subst h0; exact ⟨rfl, rfl, rfl⟩
          · right; rw [if_neg h0]; exact ⟨by omega, rfl, keep _ _ (P.row (by omega))⟩)
      (by simp) rfl (by rw [hhe]; exact elems_row push_new rfl) rfl rfl (by omega) (by omega) (by omega)
    have l2 : ldR hc (.pointer (some ⟨h.len + 2, 2, none⟩)) = some (.ret (if i = 0 then .slice none 0 0 else .slice (some ⟨h.len + 2 + 3 * i, 0, none⟩) i i) hc) := ldR_cells P.tab rfl
    have tf : hf.bs[h.len + 2]? = _ := f4 _ _ (keep _ _ P.tab) (by omega)
    have l3 := stR_cells (o := 2) (v := .slice (some ⟨he.len, 0, none⟩) (i + 1) (i + 1)) tf (by simp) rfl
    simp only [pt] at g6 g7
    simp only [f9j18, intB_lss, hcd, bindR_ret, pureR_some, ifR_true, f9j19, g1, g2, nonnil_q, padd_q, Nat.zero_add, l2, g5, g6, g7, f1, l3, f9j20, intB_inc' (n := i) (by omega)]
    refine ih (k - 1) _ _ (by omega) ⟨i + 1, by omega, rfl, ?_, ?_, ?_, ?_, ?_⟩
    · rw [upd_len, f2]; omega
    · intro b y hb e
      rw [upd_ne (by omega)]
      exact f4 _ _ (keep _ _ (P.below b y hb e)) (by omega)
    · rw [upd_eq tf, if_neg (show ¬ (i + 1 = 0) by omega)]
      have : he.len = h.len + 2 + 3 * (i + 1) := by omega
      rw [this]; rfl
    · intro _
      rw [upd_ne (by omega)]
      have : h.len + 2 + 3 * (i + 1) = he.len := by omega
      rw [this, f3, List.range_succ, List.map_append]
      have e : hc.len = h.len + 2 + 1 + 3 * i := by omega
      simp [e]
    · intro j hj
      rw [upd_ne (by omega)]
      by_cases hji : j = i
      · subst hji
        have e : h.len + 2 + 1 + 3 * j = hc.len := by omega
        have : hd.bs[hc.len]? = some (.cells [pv j, .int .i64 0, .nilFunc, .pointer none, .pointer none, .bool false] 0 false) := by rw [hhd]; exact push_new
        rw [e]
        refine f4 _ _ (by rw [hhe]; exact push_old this) (by omega)
      · exact f4 _ _ (keep _ _ (P.hands j (by omega))) (by omega)
  · have hcd : decide ((i : Int) < (progs.length : Nat)) = false := by simp; omega
    have hin : i = progs.length := by omega
    subst hin
    simp only [f9j18, intB_lss, hcd, bindR_ret, pureR_some, ifR_false, cond_beq]
    exact cont hT hc B0 lT t0 t1 P
end
end Go.Ha

namespace Go.Ha
open Go.AM Go.Proofs.YtejokpfeepbfeaaAm

/-- The layout at the begin. -/
def lay0 (inp : Inp) (b0 n m : Nat) (pv : Nat → Value) : Lay :=
  { T := b0 + n + 3, HA := b0 + n + 3 + 3 * m, TA := b0 + n + 2, nb := nb0 b0 n, hb := fun j => b0 + n + 3 + 1 + 3 * j, eb := fun _ => 0, tb := fun _ => 0, pv := pv, inp := inp,
    role := fun b => if b < b0 then .inp else if b ≤ b0 + n + 1 then .node (n + 1 - (b - b0)) else if b = b0 + n + 2 then .ta else if b = b0 + n + 3 then .tab else
      if (b - (b0 + n + 3)) % 3 = 1 then .hand ((b - (b0 + n + 3) - 1) / 3) else if b = b0 + n + 3 + 3 * m then .ha else .junk }

theorem ascB_get : ∀ (l : List Int) (p : Option Int), ascB p l = true → (∀ (i : Nat) x, l[i]? = some x → 0 ≤ x ∧ x ≤ 9 ∧ (∀ y, p = some y → y < x)) ∧ (∀ (i : Nat) x y, l[i]? = some x → l[i + 1]? = some y → x < y) := by
  intro l
  induction l with
  | nil => intro p _; exact ⟨fun i x hx => by simp at hx, fun i x y hx => by simp at hx⟩
  | cons z l ih =>
    intro p h
    simp only [ascB, Bool.and_eq_true] at h
    obtain ⟨⟨h1, h2⟩, h3⟩ := h
    obtain ⟨i1, i2⟩ := ih _ h3
    have hz : 0 ≤ z ∧ z ≤ 9 := by simpa [inside] using h1
    have hp : ∀ y, p = some y → y < z := fun y e => by subst e; simpa using h2
    refine ⟨?_, ?_⟩
    · intro i x hx
      cases i with
      | zero => simp at hx; subst hx; exact ⟨hz.1, hz.2, hp⟩
      | succ i => obtain ⟨a, b, c⟩ := i1 i x (by simpa using hx); exact ⟨a, b, fun y e => by have := hp y e; have := c z rfl; omega⟩
    · intro i x y hx hy
      cases i with
      | zero => simp at hx; subst hx; exact (i1 0 y (by simpa using hy)).2.2 z rfl
      | succ i => exact i2 i x y (by simpa using hx) (by simpa using hy)

theorem rightE_ok {algo : Int} {start order : List Int} {progs : List (List (Int × Int))} (h : rightE algo start progs order = 0) :
    (1 ≤ algo ∧ algo ≤ 4) ∧ progs.length ≤ 4 ∧ order.length ≤ 500 ∧ (∀ p ∈ progs, p.length ≤ 4 ∧ ∀ d ∈ p, DeedOk d) ∧ ascB none start = true := by
  unfold rightE at h
  split at h
  · omega
  rename_i ha
  split at h
  · omega
  rename_i hl
  split at h
  · omega
  rename_i hp
  split at h
  · omega
  rename_i hs
  split at h
  · omega
  rename_i hd
  simp only [Bool.not_eq_false] at ha hp hs hd
  refine ⟨by simpa [inside] using ha, by omega, by omega, fun p h1 => ⟨?_, fun d h2 => ?_⟩, hs⟩
  · have := List.all_eq_true.1 hp p h1; simpa using this
  · have := List.all_eq_true.1 (List.all_eq_true.1 hd p h1) d h2
    simp only [deedB, inside, Bool.and_eq_true, decide_eq_true_eq] at this
    exact ⟨by omega, this.2⟩

theorem start_len {start : List Int} (h : ascB none start = true) : start.length ≤ 10 := by
  obtain ⟨h1, h2⟩ := ascB_get start none h
  have : ∀ (i : Nat) x, start[i]? = some x → (i : Int) ≤ x := by
    intro i
    induction i with
    | zero => intro x hx; exact (h1 0 x hx).1
    | succ i ih =>
      intro x hx
      have hlt := (List.getElem?_eq_some_iff.1 hx).1
      have e : start[i]? = some start[i] := List.getElem?_eq_getElem (by omega)
      have := ih _ e
      have := h2 i _ _ e hx
      omega
  by_cases h0 : start.length = 0
  · omega
  · have e : start[start.length - 1]? = some start[start.length - 1] := List.getElem?_eq_getElem (by omega)
    have := this _ _ e
    have := h1 _ _ e
    omega

theorem node0_key {start : List Int} {i : Nat} (h1 : 1 ≤ i) {x : Int} (h : start[i - 1]? = some x) : node0 start i = ⟨x, some (i + 1), false, false⟩ := by
  have := (List.getElem?_eq_some_iff.1 h).1
  unfold node0; rw [if_neg (by omega), if_pos (by omega)]; simp [h]
theorem node0_last {start : List Int} : node0 start (start.length + 1) = ⟨10, none, false, false⟩ := by
  unfold node0; rw [if_neg (by omega), if_neg (by omega)]
theorem node0_head {start : List Int} : node0 start 0 = ⟨-1, some 1, false, false⟩ := by unfold node0; rw [if_pos rfl]

theorem inv0 {algo : Int} {start order : List Int} {progs : List (List (Int × Int))} (h : rightE algo start progs order = 0) : Inv (sys0 algo start progs) := by
  obtain ⟨ha, hl, ho, hp, hs⟩ := rightE_ok h
  obtain ⟨s1, s2⟩ := ascB_get start none hs
  have cases' : ∀ i, i < start.length + 2 → i = 0 ∨ (1 ≤ i ∧ ∃ x, start[i - 1]? = some x) ∨ i = start.length + 1 := by
    intro i hi
    by_cases h0 : i = 0
    · exact .inl h0
    · by_cases h1 : i = start.length + 1
      · exact .inr (.inr h1)
      · exact .inr (.inl ⟨by omega, _, List.getElem?_eq_getElem (by omega)⟩)
  refine ⟨⟨by simp [sys0], by simp [sys0, node0_head], ?_, ?_, ?_, ?_⟩, ?_, ha⟩
  · intro i hi k hk
    simp only [sys0] at hi hk ⊢
    rcases cases' i hi with rfl | ⟨h1, x, hx⟩ | rfl
    · rw [node0_head] at hk ⊢; simp only [Option.some.injEq] at hk; subst hk
      refine ⟨by omega, ?_⟩
      rcases cases' 1 (by omega) with h | ⟨_, y, hy⟩ | h
      · omega
      · rw [node0_key (by omega) hy]; have := s1 0 y hy; show -1 < y; omega
      · rw [h, node0_last]; show (-1 : Int) < 10; omega
    · rw [node0_key h1 hx] at hk ⊢; simp only [Option.some.injEq] at hk; subst hk
      have hlt := (List.getElem?_eq_some_iff.1 hx).1
      refine ⟨by omega, ?_⟩
      rcases cases' (i + 1) (by omega) with h | ⟨_, y, hy⟩ | h
      · omega
      · rw [node0_key (by omega) hy]; exact s2 (i - 1) x y hx (by rw [show i - 1 + 1 = i + 1 - 1 by omega]; exact hy)
      · rw [h, node0_last]; have := s1 _ x hx; show x < 10; omega
    · rw [node0_last] at hk; simp at hk
  · intro i hi
    simp only [sys0] at hi ⊢
    rcases cases' i hi with rfl | ⟨h1, x, hx⟩ | rfl
    · rw [node0_head]; simp
    · rw [node0_key h1 hx]; have := s1 _ x hx; simp; omega
    · rw [node0_last]; simp
  · intro i hi
    simp only [sys0] at hi ⊢
    rcases cases' i hi with rfl | ⟨h1, x, hx⟩ | rfl
    · rw [node0_head]; simp
    · rw [node0_key h1 hx]; have := s1 _ x hx; simp; omega
    · rw [node0_last]; simp
  · intro i hi hm
    simp only [sys0] at hi hm ⊢
    rcases cases' i hi with rfl | ⟨h1, x, hx⟩ | rfl
    · rw [node0_head] at hm; simp at hm
    · rw [node0_key h1 hx] at hm; simp at hm
    · rw [node0_last] at hm; simp at hm
  · intro j hj
    have hj' : j < progs.length := hj
    have e : progs.getD j [] = progs[j] := by simp [hj']
    have := hp _ (List.getElem_mem hj')
    refine ⟨?_, ?_, ?_, ?_, ?_⟩
    · intro d hd; simp only [sys0, e] at hd; exact this.2 d hd
    · simp [sys0]
    · simp only [sys0, e]; exact this.1
    · simp [sys0]
    · intro s hs; simp [sys0] at hs

section
variable {inp : Inp}

theorem going0 {algo : Int} {start order : List Int} {progs : List (List (Int × Int))} (hr : rightE algo start progs order = 0) {h2 h3 hT h : Heap} (I : InpOk inp h2) (B3 : Below h2.len h2 h3) (l3 : h3.len = h2.len + start.length + 1)
    (hn : ∀ i, 1 ≤ i → i ≤ start.length + 1 → h3.bs[nb0 h2.len start.length i]? = some (.cells (ndC (nb0 h2.len start.length) (node0 start i)) 0 false))
    (BT : Below h3.len h3 hT) (lT : hT.len = h3.len + 2) (t0 : hT.bs[h3.len]? = some (.cells [.int .i64 (-1), pt (nb0 h2.len start.length 1), .bool false, .bool false] 0 false)) (t1 : hT.bs[h3.len + 1]? = some (.cells (zeros [.slice none 0 0] progs.length) 0 false))
    {pv : Nat → Value} (hpv : ∀ j, j < progs.length → ProgAt inp (pv j) (progs.getD j []))
    (P : HandsSt algo (h3.len + 2) (h3.len + 1) h3.len progs.length progs pv hT h progs.length) : Going (lay0 inp h2.len start.length progs.length pv) h (sys0 algo start progs) := by
  refine ⟨⟨_, ?_, Keep.refl _⟩, inv0 hr⟩
  have I0 := inv0 hr
  have e0 : nb0 h2.len start.length 0 = h3.len := by unfold nb0; omega
  have eT : h2.len + start.length + 3 = h3.len + 2 := by omega
  have eTA : h2.len + start.length + 2 = h3.len + 1 := by omega
  have BB : ∀ (b : Nat) (y : Blk), b < h3.len → h3.bs[b]? = some y → h.bs[b]? = some y := fun b y hb e => P.below b y (by omega) (BT b y hb e)
  have ntab := P.tab
  refine { tab := ?_, tabR := ?_, ha := ?_, haR := ?_, ta := ?_, taR := ?_, first := by simp [sys0], next := fun i hi k hk => (I0.nodes.next i hi k hk).1, node := ?_, hand := ?_, handR := ?_, env := ?_, told := ?_, inp := ?_, prog := ?_ }
  · refine ⟨if progs.length = 0 then .slice none 0 0 else .slice (some ⟨h3.len + 2 + 3 * progs.length, 0, none⟩) progs.length progs.length, ?_, ?_⟩
    · simp only [lay0, sys0, eT, eTA, e0, q]
      exact ntab
    · intro h0
      simp only [sys0] at h0
      exact ⟨progs.length, by rw [if_neg (by omega)]; simp only [lay0, sys0, eT]⟩
  · simp only [lay0]; rw [if_neg (by omega), if_neg (by omega), if_neg (by omega)]; simp
  · intro h0
    simp only [sys0] at h0
    refine ⟨_, by simp only [lay0, eT]; exact P.row h0, fun j hj => ?_⟩
    simp only [sys0] at hj
    simp only [lay0, eT]
    rw [List.getElem?_map, List.getElem?_range hj]; rfl
  · intro h0
    simp only [sys0] at h0
    simp only [lay0]; rw [if_neg (by omega), if_neg (by omega), if_neg (by omega), if_neg (by omega), if_neg (by omega)]; simp
  · refine ⟨_, by simp only [lay0, eTA]; exact P.below _ _ (by omega) t1, fun j hj => ?_⟩
    exact zeros_get _ _ _ hj
  · simp only [lay0]; rw [if_neg (by omega), if_neg (by omega)]; simp
  · intro i hi
    simp only [sys0] at hi
    refine ⟨?_, ?_⟩
    · simp only [lay0, sys0]
      by_cases h0 : i = 0
      · subst h0
        rw [e0]
        exact P.below _ _ (by omega) t0
      · refine BB _ _ (by unfold nb0; omega) (hn i (by omega) (by omega))
    · simp only [lay0]
      rw [if_neg (by unfold nb0; omega), if_pos (by unfold nb0; omega)]
      congr 1; unfold nb0; omega
  · intro j hj
    simp only [sys0] at hj
    refine ⟨.pointer none, .pointer none, ?_, fun i h => by simp [sys0] at h, fun i h => by simp [sys0] at h⟩
    simp only [lay0, sys0, eT]
    exact P.hands j hj
  · intro j hj
    simp only [sys0] at hj
    simp only [lay0]
    rw [if_neg (by omega), if_neg (by omega), if_neg (by omega), if_neg (by omega), if_pos (by omega)]
    congr 1; omega
  · intro j s hj hs; simp [sys0] at hs
  · intro j hj ht; simp [sys0] at ht
  · intro b y hb
    have hlt := lt_len (I b y hb)
    refine ⟨BB b y (by omega) (B3 b y hlt (I b y hb)), ?_⟩
    simp only [lay0]; rw [if_pos hlt]
  · intro j hj
    exact hpv j hj

/-- All that is told, by hands. -/
def doneFrom (S : Sys) : Nat → Nat → List Dn
  | 0, _ => []
  | n + 1, j => S.told j ++ doneFrom S n (j + 1)
def doneL (S : Sys) : List Dn := doneFrom S S.nh 0

/-- What Run leads to. -/
def runS (algo : Int) (start : List Int) (progs : List (List (Int × Int))) (order : List Int) : Sys := rounds 5000 (runOrder (sys0 algo start progs) order)

theorem ldN_row {h : Heap} {b : Nat} {a c : Value} {k : Nat} {s : Bool} (e : h.bs[b]? = some (.cells [a, c] k s)) : ldN h 2 (pt b) = some [a, c] := by
  have : Nat.ble (0 + 2) [a, c].length = true := rfl
  simp only [ldN, Heap.row, e, Option.bind_some, cut, this, cond_true, List.drop_zero]
  rfl
theorem ldNR_row {h : Heap} {b : Nat} {a c : Value} {k : Nat} {s : Bool} (e : h.bs[b]? = some (.cells [a, c] k s)) : ldNR h 2 (pt b) = some (.ret (.agg #[a, c]) h) := by
  simp only [ldNR, ldN_row e]; rfl
theorem stNR_row {h : Heap} {b : Nat} {a c x y : Value} {k : Nat} {s : Bool} (e : h.bs[b]? = some (.cells [a, c] k s)) (hc : cellsOk [x, y] = true) :
    stNR h 2 (pt b) (.agg #[x, y]) = some (.ret undef (h.upd b (.cells [x, y] k s))) := by
  have e1 : Nat.beq 2 2 = true := rfl
  have e2 : Nat.ble (0 + 2) 2 = true := rfl
  simp only [cellsOk, List.all_cons, List.all_nil, Bool.and_true, Bool.and_eq_true] at hc
  simp [stNR, stL, pt, e, e1, e2, cellsOk, hc.1, hc.2, setL]

theorem GRow.cell {base w n : Nat} {h : Heap} {v : Value} {cs : List Value} (G : GRow base h w v cs n) : ∃ b n c, v = .slice b n c := by
  rcases G.2 with ⟨_, rfl⟩ | ⟨_, b, _, rfl, _⟩ <;> exact ⟨_, _, _, rfl⟩

theorem dnC_ok (l : List Dn) : cellsOk (l.flatMap dnC) = true := by
  induction l with
  | nil => rfl
  | cons d l ih =>
    simp only [cellsOk, List.flatMap_cons, List.all_append, Bool.and_eq_true] at ih ⊢
    exact ⟨cellsOk_dnC d, ih⟩

/-- All that was told is put in one row. -/
theorem done_ok {L0 : Lay} {h : Heap} {S : Sys} (G : Going L0 h S) (hnh : S.nh ≤ 1000) {b8 : Nat} (hb8 : h.bs[b8]? = some (.cells [.slice none 0 0, .slice none 0 0] 0 false))
    (h8 : L0.inp b8 = some (.cells [.slice none 0 0, .slice none 0 0] 0 false)) (n : Nat) (hn : 2000 < n) :
    ∃ h' v1 v2, f9j5 (run (n + 4)) (n + 4) (pt b8) (pt L0.T) h = some (.ret (.tuple #[.agg #[v1, v2], .int .i64 0]) h') ∧ GRow h.len h' 5 v1 ((doneL S).flatMap dnC) (doneL S).length ∧ GRow h.len h' 1 v2 ((leftL S).map intV64) (leftL S).length ∧
      (∀ (b : Nat) (y : Blk), b ≠ b8 → h.bs[b]? = some y → h'.bs[b]? = some y) := by
  obtain ⟨L, R, K⟩ := G.rep
  obtain ⟨vl, h1, e1, g1, B1, le1⟩ := left_ok R G.inv.nodes (n + 3) (by omega)
  rw [K.T] at e1
  obtain ⟨lb, ln, lc, hvl⟩ := g1.cell
  have e2 : (fillL [(.slice none 0 0), (.slice none 0 0)] [(1, 1, vl)]).map (fun c => Value.agg c.toArray) = some (.agg #[.slice none 0 0, vl]) := by rw [hvl]; exact Eq.trans rfl rfl
  obtain ⟨h2, hh2⟩ : ∃ h2, h2 = h1.push (.cells [.slice none 0 0, .slice none 0 0] 0 false) := ⟨_, rfl⟩
  have e3 : newR h1 [(.slice none 0 0), (.slice none 0 0)] = some (.ret (pt h1.len) h2) := by rw [hh2]; exact Eq.trans rfl rfl
  have c2 : h2.bs[h1.len]? = some (.cells [.slice none 0 0, .slice none 0 0] 0 false) := by rw [hh2]; exact push_new
  have e4 := stNR_row (x := .slice none 0 0) (y := vl) c2 (by rw [hvl]; rfl)
  obtain ⟨h3, hh3⟩ : ∃ h3, h3 = h2.upd h1.len (.cells [.slice none 0 0, vl] 0 false) := ⟨_, rfl⟩
  rw [← hh3] at e4
  have l3 : h3.len = h1.len + 1 := by rw [hh3, upd_len, hh2, push_len]
  have c3 : h3.bs[h1.len]? = some (.cells [.slice none 0 0, vl] 0 false) := by rw [hh3]; exact upd_eq c2
  have B3 : Below h1.len h1 h3 := fun b y hb e => by rw [hh3, upd_ne (by omega), hh2]; exact push_old e
  have R1 := R.below B1
  have R3 := R1.below B3
  have e5 := R3.t4
  rw [K.T] at e5
  have e6 : lenRS h3 (.slice (some ⟨L.TA, 0, none⟩) S.nh S.nh) = some (.ret (.int .i64 (S.nh : Nat)) h3) := rfl
  have hb8lt : b8 < h.len := lt_len hb8
  simp only [pt] at e1 e3 e4
  simp only [f9j5, bindR_ret, pt, e1, e2, pureR_some, e3, e4, nonnil_q, padd_q, Nat.zero_add, e5, e6]
  refine iterK_rule (σ := List Value) _ (fun k s h' => ∃ (i : Nat) (vd : Value) (l : List Dn), i + k = S.nh ∧ s = [.int .i64 i] ∧ Below h1.len h1 h' ∧ h1.len + 1 ≤ h'.len ∧ h'.bs[h1.len]? = some (.cells [vd, vl] 0 false) ∧ GRow (h1.len + 1) h' 5 vd (l.flatMap dnC) l.length ∧
      l ++ doneFrom S k i = doneL S ∧ l.length ≤ i * 10)
    (fun r => ∃ h' v1 v2, r = some (.ret (.tuple #[.agg #[v1, v2], .int .i64 0]) h') ∧ GRow h.len h' 5 v1 ((doneL S).flatMap dnC) (doneL S).length ∧ GRow h.len h' 1 v2 ((leftL S).map intV64) (leftL S).length ∧
      (∀ (b : Nat) (y : Blk), b ≠ b8 → h.bs[b]? = some y → h'.bs[b]? = some y)) ?_ (n + 4) S.nh _ _ (by omega) ⟨0, .slice none 0 0, [], by omega, rfl, B3, by omega, c3, ⟨rfl, .inl ⟨rfl, rfl⟩⟩, rfl, by simp⟩
  rintro k nx s hc ⟨i, vd, l, hi, rfl, B, hle, hX, Gd, hrest, hll⟩ ih
  simp only [List.headD_cons]
  obtain ⟨db, dn, dc, hvd⟩ := Gd.cell
  have Rc := R1.below B
  by_cases hlt : i < S.nh
  · have hcd : decide ((i : Int) < (S.nh : Nat)) = true := by simp; exact hlt
    obtain ⟨k, rfl⟩ : ∃ k', k = k' + 1 := ⟨k - 1, by omega⟩
    have i1 := idxS_nat (size := 1) (b := L.TA) (o := 0) (c := S.nh) hlt
    have i2 := Rc.ta1 hlt
    rw [Nat.zero_add] at i2
    have i3 : ldR hc (.pointer (some ⟨h1.len, 0, none⟩)) = some (.ret vd hc) := ldR_cells hX rfl
    have htl : (S.told i).length ≤ 10 := by
      have H := G.inv.hands i hlt
      have a1 := H.told
      have a2 := H.pos
      have a3 := H.small
      split at a1 <;> omega
    have hlen : lenOf (toldV (L.tb i) (S.told i)) = some (S.told i).length := by unfold toldV; split <;> simp_all [lenOf]
    have hel : elemsOf hc 5 (S.told i).length (toldV (L.tb i) (S.told i)) = some ((S.told i).flatMap dnC) := by
      by_cases ht : S.told i = []
      · rw [ht]; rfl
      · obtain ⟨q1, _⟩ := Rc.told i hlt ht
        have : toldV (L.tb i) (S.told i) = .slice (some ⟨L.tb i, 0, none⟩) (S.told i).length (S.told i).length := by
          unfold toldV; split
          · rename_i e; exact absurd e ht
          · rfl
        rw [this]; exact elems_row q1 (dnC_len _)
    have hlim : l.length + (S.told i).length ≤ 100000 := by omega
    obtain ⟨v', h5, a1, a2, a3, a4⟩ := app_row (bytes := 40) Gd hle hlen hel (dnC_ok _) (dnC_len _) (by omega) hlim (by omega)
    have hX5 := a3 _ _ (Nat.lt_succ_self _) hX
    obtain ⟨vb, vn, vc, hv'⟩ := a2.cell
    have i4 := stR_cells (o := 0) (v := v') hX5 (by simp) (by rw [hv']; rfl)
    have lst : ([vd, vl] : List Value).set 0 v' = [v', vl] := rfl
    rw [lst] at i4
    simp only [f9j7, intB_lss, hcd, bindR_ret, pureR_some, ifR_true, f9j8, i1, Nat.zero_add]
    simp only [i2, bindR_ret, padd_q, pureR_some, Nat.zero_add, i3, a1, i4, f9j9, intB_inc' (n := i) (by omega)]
    refine ih k _ _ (by omega) ⟨i + 1, v', l ++ S.told i, by omega, rfl, ?_, by rw [upd_len]; omega, upd_eq hX5, ?_, ?_, by simp; omega⟩
    · intro b y hb e
      rw [upd_ne (by omega)]
      exact a3 b y (by omega) (B b y hb e)
    · refine ⟨by simpa using a2.1, ?_⟩
      rcases a2.2 with ⟨x1, x2⟩ | ⟨x1, b, x2, x3, x4⟩
      · left; exact ⟨by simpa using x1, x2⟩
      · right; exact ⟨by simpa using x1, b, x2, by simpa using x3, by rw [upd_ne (by omega)]; simpa using x4⟩
    · rw [← hrest]; simp [doneFrom]
  · have hcd : decide ((i : Int) < (S.nh : Nat)) = false := by simp; omega
    have hk : k = 0 := by omega
    subst hk
    have hl : l = doneL S := by rw [← hrest]; simp [doneFrom]
    have hb8c : hc.bs[b8]? = some (.cells [.slice none 0 0, .slice none 0 0] 0 false) := B _ _ (by omega) (B1 _ _ hb8lt hb8)
    have i1 := ldNR_row hX
    have i2 := stNR_row (x := vd) (y := vl) hb8c (by rw [hvd, hvl]; rfl)
    have i3 := ldN_row (h := hc.upd b8 (.cells [vd, vl] 0 false)) (b := b8) (upd_eq hb8c)
    refine ⟨hc.upd b8 (.cells [vd, vl] 0 false), vd, vl, ?_, ?_, ?_, ?_⟩
    · simp only [pt] at i1 i2 i3
      simp only [f9j7, intB_lss, hcd, bindR_ret, pureR_some, ifR_false, cond_beq, f9j6, i1, i2, clean, cond_true, Option.bind_some, i3, Option.map_some, tup]
    · rw [← hl]
      refine ⟨Gd.1, ?_⟩
      rcases Gd.2 with x | ⟨x1, b, x2, x3, x4⟩
      · exact .inl x
      · exact .inr ⟨x1, b, by omega, x3, by rw [upd_ne (by omega)]; exact x4⟩
    · refine ⟨g1.1, ?_⟩
      rcases g1.2 with x | ⟨x1, b, x2, x3, x4⟩
      · exact .inl x
      · exact .inr ⟨x1, b, x2, x3, by rw [upd_ne (by omega)]; exact B b _ (lt_len x4) x4⟩
    · intro b y hb e
      rw [upd_ne hb]
      exact B b y (by have := lt_len e; omega) (B1 b y (lt_len e) e)
end
end Go.Ha

namespace Go.Ha
open Go.AM Go.Proofs.YtejokpfeepbfeaaAm

def inpOf (h : Heap) : Inp := fun b => h.bs[b]?

section
variable {inp inp' : Inp}
theorem bind_mono (m : ∀ b y, inp b = some y → inp' b = some y) {b : Nat} {r : List Value} (h : (inp b).bind rowOf = some r) : (inp' b).bind rowOf = some r := by
  match e : inp b with
  | none => rw [e] at h; simp at h
  | some y => rw [m b y e]; rw [e] at h; exact h
theorem IntsAt.mono (m : ∀ b y, inp b = some y → inp' b = some y) {v : Value} {l : List Int} (A : IntsAt inp v l) : IntsAt inp' v l :=
  A.imp id fun ⟨b, o, c, r, h1, h2, h3⟩ => ⟨b, o, c, r, h1, bind_mono m h2, h3⟩
theorem ProgAt.mono (m : ∀ b y, inp b = some y → inp' b = some y) {v : Value} {l : List (Int × Int)} (A : ProgAt inp v l) : ProgAt inp' v l :=
  A.imp id fun ⟨b, o, c, r, h1, h2, h3⟩ => ⟨b, o, c, r, h1, bind_mono m h2, h3⟩
theorem RowsAt.mono (m : ∀ b y, inp b = some y → inp' b = some y) {v : Value} {l : List (List (Int × Int))} (A : RowsAt inp v l) : RowsAt inp' v l :=
  A.imp id fun ⟨b, o, c, r, h1, h2, h3⟩ => ⟨b, o, c, r, h1, bind_mono m h2, fun i x hx => by obtain ⟨w, h4, h5⟩ := h3 i x hx; exact ⟨w, h4, h5.mono m⟩⟩
end

section
variable {h : Heap} {algo : Int} {v1 v2 v3 : Value} {start order : List Int} {progs : List (List (Int × Int))}

theorem run_err (A1 : IntsAt (inpOf h) v1 start) (A2 : RowsAt (inpOf h) v2 progs) (A3 : IntsAt (inpOf h) v3 order) (hs : start.length < 9223372036854775808) (hr : rightE algo start progs order ≠ 0) (n : Nat) (hn : 20 < n) (hn1 : start.length < n) :
    ∃ h', run (n + 2) 9 [.int .i64 algo, v1, v2, v3] h = some (.ret (.tuple #[.agg #[.slice none 0 0, .slice none 0 0], .int .i64 (rightE algo start progs order)]) h') ∧ Below h.len h h' ∧ h.len ≤ h'.len := by
  obtain ⟨h1, hh1⟩ : ∃ h1, h1 = h.push (.cells [.slice none 0 0, .slice none 0 0] 0 false) := ⟨_, rfl⟩
  have m : ∀ b y, inpOf h b = some y → inpOf h1 b = some y := fun b y e => by rw [hh1]; exact push_old e
  obtain ⟨h2, e2, B2, le2⟩ := right_ok (inp := inpOf h1) (fun b y e => e) (algo := algo) (A1.mono m) (A2.mono m) (A3.mono m) hs n (by omega) (by omega)
  have e1 : newR h [(.slice none 0 0), (.slice none 0 0)] = some (.ret (pt h.len) h1) := by rw [hh1]; exact Eq.trans rfl rfl
  have l1 : h1.len = h.len + 1 := by rw [hh1, push_len]
  have c1 : h2.bs[h.len]? = some (.cells [.slice none 0 0, .slice none 0 0] 0 false) := B2 _ _ (by omega) (by rw [hh1]; exact push_new)
  have e3 : (fillL [(.slice none 0 0), (.slice none 0 0)] []).map (fun c => Value.agg c.toArray) = some (.agg #[.slice none 0 0, .slice none 0 0]) := Eq.trans rfl rfl
  have e4 := stNR_row (x := .slice none 0 0) (y := .slice none 0 0) c1 rfl
  have e5 := ldN_row (h := h2.upd h.len (.cells [.slice none 0 0, .slice none 0 0] 0 false)) (b := h.len) (upd_eq c1)
  have hne : (rightE algo start progs order != 0) = true := by simpa using hr
  refine ⟨h2.upd h.len (.cells [.slice none 0 0, .slice none 0 0] 0 false), ?_, fun b y hb e => ?_, by rw [upd_len]; omega⟩
  · rw [run, callR_succ, eq9]
    simp only [run, pt] at e1 e2 e4 e5
    simp only [f9, bindR_ret, e1, e2, intB_neq, hne, pureR_some, ifR_true, e3, e4, clean, cond_true, Option.bind_some, e5, Option.map_some, tup]
  · rw [upd_ne (by omega)]
    exact B2 b y (by omega) (by rw [hh1]; exact push_old e)

theorem run_ok (A1 : IntsAt (inpOf h) v1 start) (A2 : RowsAt (inpOf h) v2 progs) (A3 : IntsAt (inpOf h) v3 order) (hr : rightE algo start progs order = 0) (n : Nat) (hn : 20000 < n) :
    ∃ h' w1 w2, run (n + 5) 9 [.int .i64 algo, v1, v2, v3] h = some (.ret (.tuple #[.agg #[w1, w2], .int .i64 0]) h') ∧
      GRow h.len h' 5 w1 ((doneL (runS algo start progs order)).flatMap dnC) (doneL (runS algo start progs order)).length ∧ GRow h.len h' 1 w2 ((leftL (runS algo start progs order)).map intV64) (leftL (runS algo start progs order)).length ∧
      Below h.len h h' ∧ h.len ≤ h'.len := by
  obtain ⟨ra, rl, ro, rp, rs⟩ := rightE_ok hr
  have hs := start_len rs
  obtain ⟨h1, hh1⟩ : ∃ h1, h1 = h.push (.cells [.slice none 0 0, .slice none 0 0] 0 false) := ⟨_, rfl⟩
  have l1 : h1.len = h.len + 1 := by rw [hh1, push_len]
  have m : ∀ b y, inpOf h b = some y → inpOf h1 b = some y := fun b y e => by rw [hh1]; exact push_old e
  have A1' := A1.mono m
  have A2' := A2.mono m
  have A3' := A3.mono m
  have I1 : InpOk (inpOf h1) h1 := fun b y e => e
  obtain ⟨h2, e2, B2, le2⟩ := right_ok I1 (algo := algo) A1' A2' A3' (by omega) (n + 3) (by omega) (by omega)
  have I2 := I1.below B2
  have e1 : newR h [(.slice none 0 0), (.slice none 0 0)] = some (.ret (pt h.len) h1) := by rw [hh1]; exact Eq.trans rfl rfl
  have c1 : inpOf h1 h.len = some (.cells [.slice none 0 0, .slice none 0 0] 0 false) := by rw [hh1]; exact push_new
  rw [hr] at e2
  have hne : ((0 : Int) != 0) = false := rfl
  rw [run, callR_succ, eq9]
  have red : f9 (callR Go.Proofs.Try.prog cfg (n + 4)) (n + 4) (.int .i64 algo) v1 v2 v3 h = f9j1 (run (n + 4)) (n + 4) (.int .i64 algo) v1 v2 v3 (pt h.len) h2 := by
    simp only [run, pt] at e1 e2
    simp only [f9, bindR_ret, e1, e2, intB_neq, hne, pureR_some, ifR_false]
  rw [red]
  obtain ⟨pv, hpv⟩ := A2'.vals
  obtain ⟨Q, hQ⟩ : ∃ Q : Res → Prop, Q = fun r => ∃ h' w1 w2, r = some (.ret (.tuple #[.agg #[w1, w2], .int .i64 0]) h') ∧
      GRow h.len h' 5 w1 ((doneL (runS algo start progs order)).flatMap dnC) (doneL (runS algo start progs order)).length ∧ GRow h.len h' 1 w2 ((leftL (runS algo start progs order)).map intV64) (leftL (runS algo start progs order)).length ∧
      Below h.len h h' ∧ h.len ≤ h'.len := ⟨_, rfl⟩
  suffices H : Q (f9j1 (run (n + 4)) (n + 4) (.int .i64 algo) v1 v2 v3 (pt h.len) h2) by rw [hQ] at H; exact H
  refine list_ok A1' I2 (by omega) _ _ _ _ (run (n + 4)) (n + 4) (by omega) Q ?_
  intro h3 B3 l3 hn3
  have I3 := I2.below B3
  refine table_ok A2' (by omega) hpv I3 algo _ v3 _ (run (n + 4)) (n + 4) (by omega) Q ?_
  intro hT h4 BT lT t0 t1 P
  have hpv' : ∀ j, j < progs.length → ProgAt (inpOf h1) (pv j) (progs.getD j []) := fun j hj => by
    have e : progs[j]? = some (progs.getD j []) := by simp [hj]
    obtain ⟨_, _, _, h⟩ := hpv h1 I1 j _ e; exact h
  have G := going0 hr I2 B3 l3 hn3 BT lT t0 t1 hpv' P
  have eT : h2.len + start.length + 3 = h3.len + 2 := by omega
  have lT0 : (lay0 (inpOf h1) h2.len start.length progs.length pv).T = h3.len + 2 := eT
  have inp0 : (lay0 (inpOf h1) h2.len start.length progs.length pv).inp = inpOf h1 := rfl
  rw [← lT0]
  refine order_ok (by rw [inp0]; exact A2') (by rw [inp0]; exact A3') (by omega) ro n (by omega) G rfl rfl Q ?_
  intro h5 G5 hnow hnh
  refine rounds_ok (by rw [inp0]; exact A2') (by omega) n (by omega) G5 hnh (by omega) Q ?_
  intro h6 G6 hnh6
  have I6 : InpOk (inpOf h1) h6 := by have := G6.ro; rw [inp0] at this; exact this
  obtain ⟨h', w1, w2, d1, d2, d3, d4⟩ := done_ok G6 (by omega) (I6 _ _ c1) (by rw [inp0]; exact c1) n (by omega)
  have hle : h.len ≤ h6.len := by have := lt_len (I6 _ _ c1); omega
  rw [hQ]
  refine ⟨h', w1, w2, d1, ?_, ?_, ?_, ?_⟩
  · refine ⟨d2.1, d2.2.imp id ?_⟩
    rintro ⟨x1, b, x2, x3⟩; exact ⟨x1, b, by omega, x3⟩
  · refine ⟨d3.1, d3.2.imp id ?_⟩
    rintro ⟨x1, b, x2, x3⟩; exact ⟨x1, b, by omega, x3⟩
  · intro b y hb e
    exact d4 b y (by omega) (I6 b y (m b y e))
  · have c6 := I6 _ _ c1
    by_cases h0 : h.len = 0
    · omega
    · have e : h.bs[h.len - 1]? = some (h.bs[h.len - 1]'(by show h.len - 1 < h.len; omega)) := List.getElem?_eq_getElem _
      have := lt_len (d4 _ _ (by omega) (I6 _ _ (m _ _ e)))
      omega
end
end Go.Ha

namespace Go.Ha

/-- Along next. -/
inductive Reach (S : Sys) : Nat → Nat → Prop
  | refl (i : Nat) : Reach S i i
  | step {i j k : Nat} : i < S.nn → (S.nodes i).next = some j → Reach S j k → Reach S i k

/-- All that are not marked can be reached. -/
def UR (S : Sys) : Prop := ∀ i, i < S.nn → (S.nodes i).mark = false → Reach S 0 i

/-- Is the key in the set? -/
def Has (S : Sys) (k : Int) : Prop := ∃ i, i < S.nn ∧ (S.nodes i).mark = false ∧ (S.nodes i).key = k

section
variable {S : Sys}

theorem Reach.trans {a b c : Nat} (h1 : Reach S a b) (h2 : Reach S b c) : Reach S a c := by
  induction h1 with
  | refl => exact h2
  | step h e _ ih => exact .step h e (ih h2)

theorem Reach.lt (N : NodesOk S) {a b : Nat} (h : Reach S a b) (ha : a < S.nn) : b < S.nn := by
  induction h with
  | refl => exact ha
  | step h e _ ih => exact ih (N.next _ h _ e).1

theorem Reach.key (N : NodesOk S) {a b : Nat} (h : Reach S a b) : a = b ∨ (S.nodes a).key < (S.nodes b).key := by
  induction h with
  | refl => exact .inl rfl
  | step h e _ ih =>
    have := (N.next _ h _ e).2
    right
    rcases ih with rfl | ih <;> omega

theorem Reach.linear {a b c : Nat} (h1 : Reach S a b) (h2 : Reach S a c) : Reach S b c ∨ Reach S c b := by
  induction h1 with
  | refl => exact .inl h2
  | step h e r ih =>
    cases h2 with
    | refl => exact .inr (.step h e r)
    | step h' e' r' => rw [e] at e'; simp only [Option.some.injEq] at e'; subst e'; exact ih r'

theorem Reach.next {a b c : Nat} (h : Reach S a b) (hab : a ≠ b) (hn : (S.nodes a).next = some c) : Reach S c b := by
  cases h with
  | refl => exact absurd rfl hab
  | step _ e r => rw [hn] at e; simp only [Option.some.injEq] at e; subst e; exact r

/-- Those that are not marked stand in a line. -/
theorem UR.before (U : UR S) (N : NodesOk S) {i j : Nat} (hi : i < S.nn) (mi : (S.nodes i).mark = false) (hj : j < S.nn) (mj : (S.nodes j).mark = false) (h : (S.nodes i).key ≤ (S.nodes j).key) : Reach S i j := by
  rcases (U i hi mi).linear (U j hj mj) with h1 | h1
  · exact h1
  · rcases h1.key N with e | e
    · subst e; exact .refl _
    · omega

theorem UR.one (U : UR S) (N : NodesOk S) {i j : Nat} (hi : i < S.nn) (mi : (S.nodes i).mark = false) (hj : j < S.nn) (mj : (S.nodes j).mark = false) (h : (S.nodes i).key = (S.nodes j).key) : i = j := by
  rcases (U.before N hi mi hj mj (by omega)).key N with e | e
  · exact e
  · omega

/-- Between a bead that is not marked, and its next, there is none. -/
theorem UR.absent (U : UR S) (N : NodesOk S) {p c : Nat} {k : Int} (hp : p < S.nn) (mp : (S.nodes p).mark = false) (hn : (S.nodes p).next = some c) (h1 : (S.nodes p).key < k) (h2 : k ≤ (S.nodes c).key) (h3 : (S.nodes c).key = k → (S.nodes c).mark = true) : ¬ Has S k := by
  rintro ⟨i, hi, mi, ki⟩
  have r := (U.before N hp mp hi mi (by omega)).next (by rintro rfl; omega) hn
  rcases r.key N with e | e
  · subst e; have := h3 ki; rw [mi] at this; simp at this
  · omega
end

/-- What a step may do to the beads. -/
inductive NStep (S S' : Sys) : Prop
  | same (hn : S'.nn = S.nn) (h : ∀ i, i < S.nn → (S'.nodes i).next = (S.nodes i).next ∧ (S'.nodes i).mark = (S.nodes i).mark)
  | ins (p c : Nat) (k : Int) (hp : p < S.nn) (hc : c < S.nn) (mp : (S.nodes p).mark = false) (np : (S.nodes p).next = some c) (k1 : (S.nodes p).key < k) (k2 : k < (S.nodes c).key) (hn : S'.nn = S.nn + 1)
      (new : (S'.nodes S.nn).key = k ∧ (S'.nodes S.nn).next = some c ∧ (S'.nodes S.nn).mark = false) (np' : (S'.nodes p).next = some S.nn)
      (h : ∀ i, i < S.nn → (S'.nodes i).mark = (S.nodes i).mark ∧ (i ≠ p → (S'.nodes i).next = (S.nodes i).next))
  | mark (c : Nat) (hc : c < S.nn) (mc : (S.nodes c).mark = false) (hn : S'.nn = S.nn) (mc' : (S'.nodes c).mark = true)
      (h : ∀ i, i < S.nn → (S'.nodes i).next = (S.nodes i).next ∧ (i ≠ c → (S'.nodes i).mark = (S.nodes i).mark))
  | unlink (p c : Nat) (hp : p < S.nn) (hc : c < S.nn) (mp : (S.nodes p).mark = false) (np : (S.nodes p).next = some c) (mc : (S.nodes c).mark = true) (hn : S'.nn = S.nn) (np' : (S'.nodes p).next = (S.nodes c).next)
      (h : ∀ i, i < S.nn → (S'.nodes i).mark = (S.nodes i).mark ∧ (i ≠ p → (S'.nodes i).next = (S.nodes i).next))
  | cut (p c : Nat) (hp : p < S.nn) (hc : c < S.nn) (mp : (S.nodes p).mark = false) (np : (S.nodes p).next = some c) (mc : (S.nodes c).mark = false) (hn : S'.nn = S.nn) (np' : (S'.nodes p).next = (S.nodes c).next) (mc' : (S'.nodes c).mark = true)
      (h : ∀ i, i < S.nn → (i ≠ c → (S'.nodes i).mark = (S.nodes i).mark) ∧ (i ≠ p → (S'.nodes i).next = (S.nodes i).next))

section
variable {S S' : Sys}

/-- Marks stay. -/
theorem NStep.marks (n : NStep S S') {i : Nat} (hi : i < S.nn) (h : (S'.nodes i).mark = false) : (S.nodes i).mark = false := by
  cases n with
  | same _ g => rw [(g i hi).2] at h; exact h
  | ins p c k _ _ _ _ _ _ _ _ _ g => rw [(g i hi).1] at h; exact h
  | mark c _ _ _ mc' g =>
    by_cases e : i = c
    · subst e; rw [mc'] at h; simp at h
    · rw [(g i hi).2 e] at h; exact h
  | unlink p c _ _ _ _ _ _ _ g => rw [(g i hi).1] at h; exact h
  | cut p c _ _ _ _ _ _ _ mc' g =>
    by_cases e : i = c
    · subst e; rw [mc'] at h; simp at h
    · rw [(g i hi).1 e] at h; exact h

theorem NStep.nn (n : NStep S S') : S.nn ≤ S'.nn := by
  cases n with
  | same hn => omega
  | ins p c k _ _ _ _ _ _ hn => omega
  | mark c _ _ hn => omega
  | unlink p c _ _ _ _ _ hn => omega
  | cut p c _ _ _ _ _ hn => omega

/-- Who is not marked can be reached from where it could be reached. -/
theorem NStep.reach (n : NStep S S') (N : NodesOk S) {a i : Nat} (h : Reach S a i) (hi : (S'.nodes i).mark = false) : Reach S' a i := by
  have hnn := n.nn
  induction h with
  | refl => exact .refl _
  | @step x y z hx e r ih =>
    have ih := ih hi
    have hx' : x < S'.nn := by omega
    cases n with
    | same _ g => exact .step hx' (by rw [(g x hx).1]; exact e) ih
    | ins p c k hp hc _ np _ _ hn new np' g =>
      by_cases hxp : x = p
      · subst hxp
        rw [np] at e; simp only [Option.some.injEq] at e; subst e
        exact .step hx' np' (.step (by omega) new.2.1 ih)
      · exact .step hx' (by rw [(g x hx).2 hxp]; exact e) ih
    | mark c _ _ _ _ g => exact .step hx' (by rw [(g x hx).1]; exact e) ih
    | unlink p c hp hc _ np mc _ np' g =>
      by_cases hxp : x = p
      · subst hxp
        rw [np] at e; simp only [Option.some.injEq] at e; subst e
        cases r with
        | refl => rw [(g _ hc).1, mc] at hi; simp at hi
        | @step _ w _ h1 e1 r1 =>
          have hne : c ≠ x := by rintro rfl; have := (N.next _ hc _ np).2; omega
          rw [← (g c hc).2 hne] at e1
          have hcz : c ≠ z := by rintro rfl; rw [(g _ hc).1, mc] at hi; simp at hi
          have e2 : (S'.nodes x).next = some w := by rw [np', ← (g c hc).2 hne]; exact e1
          exact .step hx' e2 (ih.next hcz e1)
      · exact .step hx' (by rw [(g x hx).2 hxp]; exact e) ih
    | cut p c hp hc mp np mc _ np' mc' g =>
      by_cases hxp : x = p
      · subst hxp
        rw [np] at e; simp only [Option.some.injEq] at e; subst e
        cases r with
        | refl => rw [mc'] at hi; simp at hi
        | @step _ w _ h1 e1 r1 =>
          have hne : c ≠ x := by rintro rfl; have := (N.next _ hc _ np).2; omega
          rw [← (g c hc).2 hne] at e1
          have hcz : c ≠ z := by rintro rfl; rw [mc'] at hi; simp at hi
          have e2 : (S'.nodes x).next = some w := by rw [np', ← (g c hc).2 hne]; exact e1
          exact .step hx' e2 (ih.next hcz e1)
      · exact .step hx' (by rw [(g x hx).2 hxp]; exact e) ih

theorem NStep.UR (n : NStep S S') (N : NodesOk S) (U : UR S) : UR S' := by
  intro i hi mi
  by_cases hlt : i < S.nn
  · exact n.reach N (U i hlt (n.marks hlt mi)) mi
  · cases n with
    | same hn g => omega
    | ins p c k hp hc mp np k1 k2 hn new np' g =>
      have : i = S.nn := by omega
      subst this
      have mp' : (S'.nodes p).mark = false := by rw [(g p hp).1]; exact mp
      have n : NStep S S' := .ins p c k hp hc mp np k1 k2 hn new np' g
      exact (n.reach N (U p hp mp) mp').trans (.step (by omega) np' (.refl _))
    | mark c _ _ hn _ g => omega
    | unlink p c _ _ _ _ _ hn _ g => omega
    | cut p c _ _ _ _ _ hn _ _ g => omega

/-- What a step does to the set. -/
inductive Eff (S S' : Sys) : Prop
  | none (h : ∀ k, Has S' k ↔ Has S k)
  | add (k : Int) (h0 : ¬ Has S k) (h1 : Has S' k) (h : ∀ k', k' ≠ k → (Has S' k' ↔ Has S k'))
  | cut (k : Int) (h0 : Has S k) (h1 : ¬ Has S' k) (h : ∀ k', k' ≠ k → (Has S' k' ↔ Has S k'))

theorem Has.same (hn : S'.nn = S.nn) (g : Grow S S') (h : ∀ i, i < S.nn → (S'.nodes i).mark = (S.nodes i).mark) (k : Int) : Has S' k ↔ Has S k := by
  constructor
  · rintro ⟨i, hi, mi, ki⟩; rw [hn] at hi; exact ⟨i, hi, by rw [← h i hi]; exact mi, by rw [← g.key i hi]; exact ki⟩
  · rintro ⟨i, hi, mi, ki⟩; exact ⟨i, by omega, by rw [h i hi]; exact mi, by rw [g.key i hi]; exact ki⟩

theorem Has.marked (N : NodesOk S) (U : _root_.Go.Ha.UR S) (g : Grow S S') {c : Nat} (hc : c < S.nn) (mc : (S.nodes c).mark = false) (hn : S'.nn = S.nn) (mc' : (S'.nodes c).mark = true)
    (h : ∀ i, i < S.nn → i ≠ c → (S'.nodes i).mark = (S.nodes i).mark) :
    Has S (S.nodes c).key ∧ ¬ Has S' (S.nodes c).key ∧ ∀ k', k' ≠ (S.nodes c).key → (Has S' k' ↔ Has S k') := by
  refine ⟨⟨c, hc, mc, rfl⟩, ?_, ?_⟩
  · rintro ⟨i, hi, mi, ki⟩
    rw [hn] at hi
    rw [g.key i hi] at ki
    by_cases e : i = c
    · subst e; rw [mc'] at mi; simp at mi
    · rw [h i hi e] at mi
      exact e (U.one N hi mi hc mc ki)
  · intro k' hk
    constructor
    · rintro ⟨i, hi, mi, ki⟩
      rw [hn] at hi
      rw [g.key i hi] at ki
      exact ⟨i, hi, by rw [← h i hi (by rintro rfl; exact hk ki.symm)]; exact mi, ki⟩
    · rintro ⟨i, hi, mi, ki⟩
      exact ⟨i, by omega, by rw [h i hi (by rintro rfl; exact hk ki.symm)]; exact mi, by rw [g.key i hi]; exact ki⟩

theorem Has.put (N : NodesOk S) (U : _root_.Go.Ha.UR S) (g : Grow S S') {p c : Nat} {k : Int} (hp : p < S.nn) (mp : (S.nodes p).mark = false) (np : (S.nodes p).next = some c) (k1 : (S.nodes p).key < k) (k2 : k < (S.nodes c).key) (hn : S'.nn = S.nn + 1)
    (new : (S'.nodes S.nn).key = k ∧ (S'.nodes S.nn).next = some c ∧ (S'.nodes S.nn).mark = false) (h : ∀ i, i < S.nn → (S'.nodes i).mark = (S.nodes i).mark) :
    ¬ Has S k ∧ Has S' k ∧ ∀ k', k' ≠ k → (Has S' k' ↔ Has S k') := by
  refine ⟨U.absent N hp mp np k1 (by omega) (fun e => by omega), ⟨S.nn, by omega, new.2.2, new.1⟩, fun k' hk => ?_⟩
  constructor
  · rintro ⟨i, hi, mi, ki⟩
    by_cases hlt : i < S.nn
    · exact ⟨i, hlt, by rw [← h i hlt]; exact mi, by rw [← g.key i hlt]; exact ki⟩
    · have : i = S.nn := by omega
      subst this; exact absurd (ki.symm.trans new.1) hk
  · rintro ⟨i, hi, mi, ki⟩
    exact ⟨i, by omega, by rw [h i hi]; exact mi, by rw [g.key i hi]; exact ki⟩
end
end Go.Ha

namespace Go.Ha

/-- What a hand holds. -/
def holds (x : Hd) : List Nat :=
  match x.st with
  | some .l1 | some .z3 => x.p.toList
  | some .l2 | some .z4 | some .z5 => x.p.toList ++ x.c.toList
  | _ => []

structure LInv (S : Sys) : Prop where
  held : ∀ j, j < S.nh → ∀ i, i ∈ holds (S.hands j) → i < S.nn ∧ (S.nodes i).lock = true
  one : ∀ j j', j < S.nh → j' < S.nh → ∀ i, i ∈ holds (S.hands j) → i ∈ holds (S.hands j') → j = j'
  all : ∀ i, i < S.nn → (S.nodes i).lock = true → ∃ j, j < S.nh ∧ i ∈ holds (S.hands j)

/-- A step of hand w turns what it holds, and the locks with it. -/
theorem LInv.step {S S' : Sys} (I : LInv S) {w : Nat} (hw : w < S.nh) (hnh : S'.nh = S.nh) (hnn : S.nn ≤ S'.nn) (ho : ∀ j, j ≠ w → S'.hands j = S.hands j)
    (hlock : ∀ i, i < S'.nn → ((S'.nodes i).lock = true ↔ (i ∈ holds (S'.hands w) ∨ (i < S.nn ∧ (S.nodes i).lock = true ∧ i ∉ holds (S.hands w)))))
    (hnew : ∀ i, i ∈ holds (S'.hands w) → i < S.nn ∧ (i ∈ holds (S.hands w) ∨ (S.nodes i).lock = false)) : LInv S' := by
  have other : ∀ j, j < S.nh → j ≠ w → ∀ i, i ∈ holds (S.hands j) → i ∉ holds (S'.hands w) := by
    intro j hj hjw i hi hi'
    rcases (hnew i hi').2 with h | h
    · exact hjw (I.one j w hj hw i hi h)
    · have := (I.held j hj i hi).2; rw [h] at this; simp at this
  refine ⟨?_, ?_, ?_⟩
  · intro j hj i hi
    by_cases e : j = w
    · subst e
      have := (hnew i hi).1
      exact ⟨by omega, (hlock i (by omega)).2 (.inl hi)⟩
    · rw [ho j e] at hi
      rw [hnh] at hj
      obtain ⟨h1, h2⟩ := I.held j hj i hi
      exact ⟨by omega, (hlock i (by omega)).2 (.inr ⟨h1, h2, fun h => e (I.one j w hj hw i hi h)⟩)⟩
  · intro j j' hj hj' i hi hi'
    rw [hnh] at hj hj'
    by_cases e : j = w
    · by_cases e' : j' = w
      · omega
      · subst e; rw [ho j' e'] at hi'; exact absurd hi (other j' hj' e' i hi')
    · by_cases e' : j' = w
      · subst e'; rw [ho j e] at hi; exact absurd hi' (other j hj e i hi)
      · rw [ho j e] at hi; rw [ho j' e'] at hi'; exact I.one j j' hj hj' i hi hi'
  · intro i hi hl
    rcases (hlock i hi).1 hl with h | ⟨h1, h2, h3⟩
    · exact ⟨w, by omega, h⟩
    · obtain ⟨j, hj, h4⟩ := I.all i h1 h2
      have e : j ≠ w := by rintro rfl; exact h3 h4
      exact ⟨j, by omega, by rw [ho j e]; exact h4⟩

/-- A step that turns no lock, of a hand that goes on to hold what it held. -/
theorem LInv.quiet {S S' : Sys} (I : LInv S) {w : Nat} (hw : w < S.nh) (hnh : S'.nh = S.nh) (hnn : S.nn ≤ S'.nn) (ho : ∀ j, j ≠ w → S'.hands j = S.hands j)
    (hh : holds (S'.hands w) = holds (S.hands w)) (hl : ∀ i, i < S.nn → (S'.nodes i).lock = (S.nodes i).lock) (hn : ∀ i, S.nn ≤ i → i < S'.nn → (S'.nodes i).lock = false) : LInv S' := by
  refine I.step hw hnh hnn ho ?_ ?_
  · intro i hi
    rw [hh]
    by_cases h : i < S.nn
    · rw [hl i h]
      constructor
      · intro e
        by_cases m : i ∈ holds (S.hands w)
        · exact .inl m
        · exact .inr ⟨h, e, m⟩
      · rintro (m | ⟨_, e, _⟩)
        · exact (I.held w hw i m).2
        · exact e
    · rw [hn i (by omega) hi]
      constructor
      · intro e; simp at e
      · rintro (m | ⟨e, _⟩)
        · have := (I.held w hw i m).1; omega
        · omega
  · intro i hi
    rw [hh] at hi
    exact ⟨(I.held w hw i hi).1, .inl hi⟩

/-- A lock is taken. -/
theorem LInv.take {S S' : Sys} (I : LInv S) {w n : Nat} (hw : w < S.nh) (hnh : S'.nh = S.nh) (hnn : S'.nn = S.nn) (ho : ∀ j, j ≠ w → S'.hands j = S.hands j) (hn : n < S.nn) (hf : (S.nodes n).lock = false)
    (hh : ∀ i, i ∈ holds (S'.hands w) ↔ (i = n ∨ i ∈ holds (S.hands w))) (hl : ∀ i, i ≠ n → (S'.nodes i).lock = (S.nodes i).lock) (ht : (S'.nodes n).lock = true) : LInv S' := by
  refine I.step hw hnh (by omega) ho ?_ ?_
  · intro i hi
    rw [hh]
    by_cases e : i = n
    · subst e; simp [ht]
    · rw [hl i e]
      constructor
      · intro e'
        by_cases m : i ∈ holds (S.hands w)
        · exact .inl (.inr m)
        · exact .inr ⟨by omega, e', m⟩
      · rintro ((m | m) | ⟨_, e', _⟩)
        · exact absurd m e
        · exact (I.held w hw i m).2
        · exact e'
  · intro i hi
    rcases (hh i).1 hi with rfl | m
    · exact ⟨hn, .inr hf⟩
    · exact ⟨(I.held w hw i m).1, .inl m⟩

/-- All that is no longer held is free. -/
theorem LInv.free {S S' : Sys} (I : LInv S) {w : Nat} (hw : w < S.nh) (hnh : S'.nh = S.nh) (hnn : S.nn ≤ S'.nn) (ho : ∀ j, j ≠ w → S'.hands j = S.hands j)
    (hh : ∀ i, i ∈ holds (S'.hands w) → i ∈ holds (S.hands w)) (hl : ∀ i, i < S'.nn → (S'.nodes i).lock = (decide (i < S.nn) && (S.nodes i).lock && (decide (i ∉ holds (S.hands w)) || decide (i ∈ holds (S'.hands w))))) : LInv S' := by
  refine I.step hw hnh hnn ho ?_ ?_
  · intro i hi
    rw [hl i hi]
    simp only [Bool.and_eq_true, Bool.or_eq_true, decide_eq_true_eq]
    constructor
    · rintro ⟨⟨h1, h2⟩, h3 | h3⟩
      · exact .inr ⟨h1, h2, h3⟩
      · exact .inl h3
    · rintro (h | ⟨h1, h2, h3⟩)
      · have := I.held w hw i (hh i h); exact ⟨⟨this.1, this.2⟩, .inr h⟩
      · exact ⟨⟨h1, h2⟩, .inl h3⟩
  · intro i hi
    exact ⟨(I.held w hw i (hh i hi)).1, .inl (hh i hi)⟩
end Go.Ha

namespace Go.Ha

structure AInv (S : Sys) : Prop where
  ur : UR S
  low : ∀ i, i < S.nn → (S.nodes i).mark = true → 0 ≤ (S.nodes i).key
  lk : LInv S
  pend : ∀ j, j < S.nh → ∀ s, (S.hands j).st = some s → s = .z5 ∨ s = .m3 → (S.hands j).is = true ∧ ∀ c, (S.hands j).c = some c → (S.nodes c).mark = true
  l12 : ∀ j, j < S.nh → ∀ s, (S.hands j).st = some s → s = .l1 ∨ s = .l2 → ∀ p c, (S.hands j).p = some p → (S.hands j).c = some c → (S.nodes p).mark = false ∧ (S.nodes p).next = some c
  l : S.algo = 1 → ∀ i, i < S.nn → (S.nodes i).mark = false → ∀ k, (S.nodes i).next = some k → (S.nodes k).mark = false
  z5 : ∀ j, j < S.nh → (S.hands j).st = some .z5 → ∀ p c, (S.hands j).p = some p → (S.hands j).c = some c → (S.nodes p).mark = false ∧ (S.nodes p).next = some c ∧ ∀ m, (S.nodes c).next = some m → (S.nodes m).mark = false
  z : S.algo = 2 → ∀ i, i < S.nn → (S.nodes i).mark = false → ∀ k, (S.nodes i).next = some k → (S.nodes k).mark = true → ∃ j, j < S.nh ∧ (S.hands j).st = some .z5 ∧ (S.hands j).p = some i ∧ (S.hands j).c = some k

section
variable {S S' : Sys}

/-- No bead is marked, none is put elsewhere. -/
theorem AInv.same (A : AInv S) (N : NodesOk S) (I : Inv S) (g : Grow S S') {w : Nat} (hw : w < S.nh) (hnh : S'.nh = S.nh) (hnn : S'.nn = S.nn) (ho : ∀ j, j ≠ w → S'.hands j = S.hands j)
    (h : ∀ i, i < S.nn → (S'.nodes i).next = (S.nodes i).next ∧ (S'.nodes i).mark = (S.nodes i).mark) (lk : LInv S') (hb : (S.hands w).st ≠ some .z5)
    (hs : ∀ s, (S'.hands w).st = some s → s ≠ .z5 ∧ s ≠ .m3)
    (h12 : ∀ s, (S'.hands w).st = some s → s = .l1 ∨ s = .l2 → ∀ p c, (S'.hands w).p = some p → (S'.hands w).c = some c → p < S.nn ∧ (S.nodes p).mark = false ∧ (S.nodes p).next = some c) : AInv S' := by
  have hc : ∀ j, j < S.nh → ∀ s, (S.hands j).st = some s → s.begins = false → ∃ p c, (S.hands j).p = some p ∧ (S.hands j).c = some c ∧ p < S.nn ∧ c < S.nn := by
    intro j hj s hs hb
    obtain ⟨kd, k, h1, h2⟩ := (I.hands j hj).at' s hs
    obtain ⟨p, c, e1, e2, e3, e4, _⟩ := h2.on hb
    exact ⟨p, c, e1, e2, e3, e4⟩
  have n : NStep S S' := .same hnn h
  refine ⟨n.UR N A.ur, ?_, lk, ?_, ?_, ?_, ?_, ?_⟩
  · intro i hi hm
    rw [hnn] at hi
    rw [(h i hi).2] at hm
    rw [g.key i hi]; exact A.low i hi hm
  · intro j hj s hs' hz
    rw [hnh] at hj
    by_cases e : j = w
    · subst e; have := hs s hs'; rcases hz with hz | hz <;> simp_all
    · rw [ho j e] at hs' ⊢
      obtain ⟨a, b⟩ := A.pend j hj s hs' hz
      refine ⟨a, fun c hc' => ?_⟩
      obtain ⟨p, c', e1, e2, e3, e4⟩ := hc j hj s hs' (by rcases hz with rfl | rfl <;> rfl)
      rw [e2] at hc'; simp only [Option.some.injEq] at hc'; subst hc'
      rw [(h _ e4).2]; exact b _ e2
  · intro j hj s hs' hz p c hp hc'
    rw [hnh] at hj
    by_cases e : j = w
    · subst e
      obtain ⟨a, b, d⟩ := h12 s hs' hz p c hp hc'
      rw [(h p a).1, (h p a).2]; exact ⟨b, d⟩
    · rw [ho j e] at hs' hp hc'
      obtain ⟨p', c', e1, e2, e3, e4⟩ := hc j hj s hs' (by rcases hz with rfl | rfl <;> rfl)
      rw [e1] at hp; simp only [Option.some.injEq] at hp; subst hp
      rw [(h _ e3).1, (h _ e3).2]
      exact A.l12 j hj s hs' hz _ c e1 hc'
  · intro ha i hi hm k hk
    rw [hnn] at hi
    rw [(h i hi).2] at hm
    rw [(h i hi).1] at hk
    rw [(h k (N.next i hi k hk).1).2]
    exact A.l (by rw [← g.algo]; exact ha) i hi hm k hk
  · intro j hj hs' p c hp hc'
    rw [hnh] at hj
    by_cases e : j = w
    · subst e; have := (hs _ hs').1; exact absurd rfl this
    · rw [ho j e] at hs' hp hc'
      obtain ⟨p', c', e1, e2, e3, e4⟩ := hc j hj _ hs' rfl
      rw [e1] at hp; simp only [Option.some.injEq] at hp; subst hp
      rw [e2] at hc'; simp only [Option.some.injEq] at hc'; subst hc'
      obtain ⟨a, b, d⟩ := A.z5 j hj hs' _ _ e1 e2
      rw [(h _ e3).1, (h _ e3).2, (h _ e4).1]
      refine ⟨a, b, fun m hm => ?_⟩
      rw [(h m (N.next _ e4 m hm).1).2]; exact d m hm
  · intro ha i hi hm k hk hk'
    rw [hnn] at hi
    rw [(h i hi).2] at hm
    rw [(h i hi).1] at hk
    rw [(h k (N.next i hi k hk).1).2] at hk'
    obtain ⟨j, hj, a, b, c⟩ := A.z (by rw [← g.algo]; exact ha) i hi hm k hk hk'
    have e : j ≠ w := by rintro rfl; exact hb a
    exact ⟨j, by omega, by rw [ho j e]; exact a, by rw [ho j e]; exact b, by rw [ho j e]; exact c⟩

theorem AInv.places (I : Inv S) {j : Nat} (hj : j < S.nh) {s : St} (hs : (S.hands j).st = some s) (hb : s.begins = false) : ∃ p c, (S.hands j).p = some p ∧ (S.hands j).c = some c ∧ p < S.nn ∧ c < S.nn := by
  obtain ⟨kd, k, h1, h2⟩ := (I.hands j hj).at' s hs
  obtain ⟨p, c, e1, e2, e3, e4, _⟩ := h2.on hb
  exact ⟨p, c, e1, e2, e3, e4⟩

/-- Who is ahead of a bead that is not marked itself: one alone. -/
theorem UR.ahead (U : UR S) (N : NodesOk S) {i p c : Nat} (hi : i < S.nn) (mi : (S.nodes i).mark = false) (ni : (S.nodes i).next = some c) (hp : p < S.nn) (mp : (S.nodes p).mark = false) (np : (S.nodes p).next = some c) : i = p := by
  rcases (U i hi mi).linear (U p hp mp) with h | h
  · by_cases e : i = p
    · exact e
    · have := (h.next e ni).key N
      have h2 := (N.next p hp c np).2
      rcases this with e | e
      · subst e; omega
      · omega
  · by_cases e : p = i
    · exact e.symm
    · have := (h.next e np).key N
      have h2 := (N.next i hi c ni).2
      rcases this with e | e
      · subst e; omega
      · omega

/-- Two beads that can be reached, with the same next, are one. -/
theorem Reach.ahead (N : NodesOk S) {i p c : Nat} (ri : Reach S 0 i) (rp : Reach S 0 p) (ni : (S.nodes i).next = some c) (np : (S.nodes p).next = some c) : i = p := by
  have hi := ri.lt N N.first
  have hp := rp.lt N N.first
  rcases ri.linear rp with h | h
  · by_cases e : i = p
    · exact e
    · have := (h.next e ni).key N
      have h2 := (N.next p hp c np).2
      rcases this with e | e
      · subst e; omega
      · omega
  · by_cases e : p = i
    · exact e.symm
    · have := (h.next e np).key N
      have h2 := (N.next i hi c ni).2
      rcases this with e | e
      · subst e; omega
      · omega

/-- Of those that mark. -/
theorem AInv.free (A : AInv S) (N : NodesOk S) (I : Inv S) (g : Grow S S') (ha : S.algo ≠ 1 ∧ S.algo ≠ 2) (n : NStep S S') {w : Nat} (hw : w < S.nh) (hnh : S'.nh = S.nh) (ho : ∀ j, j ≠ w → S'.hands j = S.hands j) (lk : LInv S')
    (hlow : ∀ i, i < S'.nn → (S'.nodes i).mark = true → 0 ≤ (S'.nodes i).key) (hat : ∀ s, (S'.hands w).st = some s → AlgoOk S.algo s)
    (hp : ∀ s, (S'.hands w).st = some s → s = .m3 → (S'.hands w).is = true ∧ ∀ c, (S'.hands w).c = some c → (S'.nodes c).mark = true) : AInv S' := by
  have hst : ∀ j, j < S.nh → ∀ s, (S'.hands j).st = some s → AlgoOk S.algo s := by
    intro j hj s hs
    by_cases e : j = w
    · subst e; exact hat s hs
    · rw [ho j e] at hs
      obtain ⟨kd, k, h1, h2⟩ := (I.hands j hj).at' s hs
      exact h2.algo
  refine ⟨n.UR N A.ur, hlow, lk, ?_, ?_, ?_, ?_, ?_⟩
  · intro j hj s hs' hz
    rw [hnh] at hj
    have hal := hst j hj s hs'
    rcases hz with rfl | rfl
    · exact absurd hal ha.2
    · by_cases e : j = w
      · subst e; exact hp _ hs' rfl
      · rw [ho j e] at hs' ⊢
        obtain ⟨a, b⟩ := A.pend j hj _ hs' (.inr rfl)
        refine ⟨a, fun c hc => ?_⟩
        obtain ⟨p, c', e1, e2, e3, e4⟩ := AInv.places I hj hs' rfl
        rw [e2] at hc; simp only [Option.some.injEq] at hc; subst hc
        cases hm : (S'.nodes c').mark with
        | true => rfl
        | false => have := n.marks e4 hm; rw [b _ e2] at this; simp at this
  · intro j hj s hs' hz
    rw [hnh] at hj
    have hal := hst j hj s hs'
    rcases hz with rfl | rfl <;> exact absurd hal ha.1
  · intro h; exact absurd (g.algo ▸ h) ha.1
  · intro j hj hs'
    rw [hnh] at hj
    exact absurd (hst j hj _ hs') ha.2
  · intro h; exact absurd (g.algo ▸ h) ha.2
end
end Go.Ha

namespace Go.Ha

section
variable {S S' : Sys}

theorem AInv.algoAt (I : Inv S) {j : Nat} (hj : j < S.nh) {s : St} (hs : (S.hands j).st = some s) : AlgoOk S.algo s := by
  obtain ⟨kd, k, h1, h2⟩ := (I.hands j hj).at' s hs; exact h2.algo

/-- Hand over hand: a bead comes, or goes. -/
theorem AInv.lock (A : AInv S) (N : NodesOk S) (I : Inv S) (g : Grow S S') (ha : S.algo = 1) (n : NStep S S') {w : Nat} (hw : w < S.nh) (hnh : S'.nh = S.nh) (ho : ∀ j, j ≠ w → S'.hands j = S.hands j) (lk : LInv S')
    (hlow : ∀ i, i < S'.nn → (S'.nodes i).mark = true → 0 ≤ (S'.nodes i).key) (hst : (S'.hands w).st = none)
    (hch : ∀ i, i < S.nn → i ∉ holds (S.hands w) → (S'.nodes i).next = (S.nodes i).next ∧ (S'.nodes i).mark = (S.nodes i).mark)
    (hl : ∀ i, i < S'.nn → (S'.nodes i).mark = false → ∀ k, (S'.nodes i).next = some k → (S'.nodes k).mark = false) : AInv S' := by
  have no : ∀ j, j < S.nh → ∀ s, (S'.hands j).st = some s → j ≠ w ∧ (S.hands j).st = some s ∧ S.algo = 1 := by
    intro j hj s hs
    have e : j ≠ w := by rintro rfl; rw [hst] at hs; simp at hs
    rw [ho j e] at hs
    exact ⟨e, hs, ha⟩
  refine ⟨n.UR N A.ur, hlow, lk, ?_, ?_, fun _ => hl, ?_, ?_⟩
  · intro j hj s hs' hz
    rw [hnh] at hj
    obtain ⟨_, b, _⟩ := no j hj s hs'
    have := AInv.algoAt I hj b
    rcases hz with rfl | rfl
    · have : S.algo = 2 := this; omega
    · have : S.algo ≠ 1 ∧ S.algo ≠ 2 := this; omega
  · intro j hj s hs' hz p c hp hc
    rw [hnh] at hj
    obtain ⟨e, b, _⟩ := no j hj s hs'
    rw [ho j e] at hp hc
    have hb : s.begins = false := by rcases hz with rfl | rfl <;> rfl
    obtain ⟨p', c', e1, e2, e3, e4⟩ := AInv.places I hj b hb
    rw [e1] at hp; simp only [Option.some.injEq] at hp; subst hp
    have hm : p' ∈ holds (S.hands j) := by
      unfold holds; rw [b]; rcases hz with rfl | rfl <;> simp [e1]
    have hnw : p' ∉ holds (S.hands w) := fun h => e (A.lk.one j w hj hw _ hm h)
    rw [(hch _ e3 hnw).1, (hch _ e3 hnw).2]
    exact A.l12 j hj s b hz _ c e1 hc
  · intro j hj hs'
    rw [hnh] at hj
    obtain ⟨_, b, _⟩ := no j hj _ hs'
    have : S.algo = 2 := AInv.algoAt I hj b
    omega
  · intro h; have := g.algo; omega

/-- Looked at twice: a bead comes, is marked, or is left out. -/
theorem AInv.lazy (A : AInv S) (N : NodesOk S) (I : Inv S) (g : Grow S S') (ha : S.algo = 2) (n : NStep S S') {w : Nat} (hw : w < S.nh) (hnh : S'.nh = S.nh) (ho : ∀ j, j ≠ w → S'.hands j = S.hands j) (lk : LInv S')
    (hlow : ∀ i, i < S'.nn → (S'.nodes i).mark = true → 0 ≤ (S'.nodes i).key)
    (hst : ∀ s, (S'.hands w).st = some s → s = .z5 ∧ (S'.hands w).is = true ∧ ∀ p c, (S'.hands w).p = some p → (S'.hands w).c = some c → (S'.nodes c).mark = true ∧ (S'.nodes p).mark = false ∧ (S'.nodes p).next = some c ∧ ∀ m, (S'.nodes c).next = some m → (S'.nodes m).mark = false)
    (hpc : ∀ s, (S'.hands w).st = some s → ∃ p, (S'.hands w).p = some p)
    (hch : ∀ i, i < S.nn → i ∉ holds (S.hands w) → (S'.nodes i).next = (S.nodes i).next ∧ (S'.nodes i).mark = (S.nodes i).mark)
    (hm : ∀ j, j < S.nh → j ≠ w → (S.hands j).st = some .z5 → ∀ c m, (S.hands j).c = some c → (S.nodes c).next = some m → (S'.nodes m).mark = false)
    (hz : ∀ i, i < S'.nn → (S'.nodes i).mark = false → ∀ k, (S'.nodes i).next = some k → (S'.nodes k).mark = true → ∃ j, j < S'.nh ∧ (S'.hands j).st = some .z5 ∧ (S'.hands j).p = some i ∧ (S'.hands j).c = some k) : AInv S' := by
  have other : ∀ j, j < S.nh → j ≠ w → (S.hands j).st = some .z5 → ∃ p c, (S.hands j).p = some p ∧ (S.hands j).c = some c ∧ p < S.nn ∧ c < S.nn ∧ p ∉ holds (S.hands w) ∧ c ∉ holds (S.hands w) := by
    intro j hj e b
    obtain ⟨p', c', e1, e2, e3, e4⟩ := AInv.places I hj b rfl
    refine ⟨p', c', e1, e2, e3, e4, fun h => e (A.lk.one j w hj hw _ ?_ h), fun h => e (A.lk.one j w hj hw _ ?_ h)⟩
    · unfold holds; rw [b]; simp [e1]
    · unfold holds; rw [b]; simp [e2]
  refine ⟨n.UR N A.ur, hlow, lk, ?_, ?_, ?_, ?_, fun _ => hz⟩
  · intro j hj s hs' hz
    rw [hnh] at hj
    by_cases e : j = w
    · subst e
      obtain ⟨a, b, c⟩ := hst s hs'
      obtain ⟨p, hp⟩ := hpc s hs'
      exact ⟨b, fun c' hc' => (c p c' hp hc').1⟩
    · rw [ho j e] at hs' ⊢
      obtain ⟨a, b⟩ := A.pend j hj s hs' hz
      refine ⟨a, fun c hc => ?_⟩
      have hz5 : (S.hands j).st = some .z5 := by
        rcases hz with rfl | rfl
        · exact hs'
        · have : S.algo ≠ 1 ∧ S.algo ≠ 2 := AInv.algoAt I hj hs'; omega
      obtain ⟨p', c', e1, e2, e3, e4, e5, e6⟩ := other j hj e hz5
      rw [e2] at hc; simp only [Option.some.injEq] at hc; subst hc
      rw [(hch _ e4 e6).2]; exact b _ e2
  · intro j hj s hs' hz
    rw [hnh] at hj
    by_cases e : j = w
    · subst e
      have := (hst s hs').1
      subst this; rcases hz with hz | hz <;> simp at hz
    · rw [ho j e] at hs'
      have := AInv.algoAt I hj hs'
      rcases hz with rfl | rfl
      · have : S.algo = 1 := this; omega
      · have : S.algo = 1 := this; omega
  · intro h; have := g.algo; omega
  · intro j hj hs' p c hp hc
    rw [hnh] at hj
    by_cases e : j = w
    · subst e
      exact ((hst _ hs').2.2 p c hp hc).2
    · rw [ho j e] at hs' hp hc
      obtain ⟨p', c', e1, e2, e3, e4, e5, e6⟩ := other j hj e hs'
      rw [e1] at hp; simp only [Option.some.injEq] at hp; subst hp
      rw [e2] at hc; simp only [Option.some.injEq] at hc; subst hc
      obtain ⟨a, b, d⟩ := A.z5 j hj hs' _ _ e1 e2
      rw [(hch _ e3 e5).1, (hch _ e3 e5).2, (hch _ e4 e6).1]
      exact ⟨a, b, fun m hm' => hm j hj e hs' _ m e2 hm'⟩

/-- Who is put behind a pending one is not marked by another. -/
theorem AInv.behind (A : AInv S) (N : NodesOk S) (I : Inv S) {j : Nat} (hj : j < S.nh) (hs : (S.hands j).st = some .z5) {c m : Nat} (hc : (S.hands j).c = some c) (hm : (S.nodes c).next = some m) {p : Nat} (hp : p < S.nn) (mp : (S.nodes p).mark = false) (np : (S.nodes p).next = some m) : False := by
  obtain ⟨p', c', e1, e2, e3, e4⟩ := AInv.places I hj hs rfl
  rw [e2] at hc; simp only [Option.some.injEq] at hc; subst hc
  obtain ⟨a, b, d⟩ := A.z5 j hj hs _ _ e1 e2
  have mc := (A.pend j hj _ hs (.inl rfl)).2 _ e2
  have rp := A.ur p hp mp
  have rc : Reach S 0 c' := (A.ur p' e3 a).trans (.step e3 b (.refl _))
  have := rp.ahead N rc np hm
  subst this
  rw [mp] at mc; simp at mc
end
end Go.Ha

/-
  Hands: the closures of a deed are made: the cells that come to lie behind all blocks.
  Hands: what is told of a hand's deeds: a row is put in place of another, or written into.
  Hands: a step of a hand does what the model says.
  Hands: what always holds of the model's state: keys rise along next; where a hand stands.
  Hands: a step keeps what always holds.
  Hands: the run, on the model's states.
  Hands: rows that grow: what append does to a row of the call's own.
  Hands: what is left of the list.
  Hands: what is handed in, and whether it is right.
  Hands: the loops of Run: by the order, and then in rounds.
-/
import Derived.Test.YtejokpfeepbfeaaHaA
import Derived.IntWalk
set_option linter.unusedSimpArgs false
set_option linter.unusedVariables false
set_option linter.unnecessarySimpa false
namespace Go.Ha
open Go.AM Go.Proofs.YtejokpfeepbfeaaAm

/-- A heap with more blocks behind. -/
def hx (h : Heap) (l : List Blk) : Heap := ⟨h.bs ++ l⟩
def cell (v : Value) : Blk := .cells [v] 0 false

theorem hx_old {h : Heap} {l : List Blk} {b : Nat} {y : Blk} (e : h.bs[b]? = some y) : (hx h l).bs[b]? = some y := by
  have := (List.getElem?_eq_some_iff.1 e).1
  simp only [hx]; rw [List.getElem?_append_left this]; exact e
theorem hx_new {h : Heap} {l : List Blk} (k : Nat) : (hx h l).bs[h.len + k]? = l[k]? := by
  simp only [hx, Heap.len]; rw [List.getElem?_append_right (by omega)]; congr 1; omega
theorem hx_len (h : Heap) (l : List Blk) : (hx h l).len = h.len + l.length := by simp [hx, Heap.len]
theorem hx_push (h : Heap) (l : List Blk) (x : Blk) : (hx h l).push x = hx h (l ++ [x]) := by simp [hx, Heap.push]
theorem hx_upd (h : Heap) (l : List Blk) (k : Nat) (x : Blk) : (hx h l).upd (h.len + k) x = hx h (l.set k x) := by
  simp only [hx, Heap.upd, Heap.len, Heap.mk.injEq]
  rw [List.set_append_right _ _ (by omega)]; congr 2; omega
theorem hx_nil (h : Heap) : hx h [] = h := by simp [hx]

theorem hx_box {h : Heap} {l : List Blk} {v : Value} (hv : cellsV v = [v]) (hc : cellOk v = true) : boxR 1 (hx h l) v = some (.ret (pt (h.len + l.length)) (hx h (l ++ [cell v]))) := by
  simp [boxR, hv, newR, cellsOk, hc, hx_len, hx_push, cell]
theorem hx_new1 {h : Heap} {l : List Blk} {v : Value} (hc : cellOk v = true) : newR (hx h l) [v] = some (.ret (pt (h.len + l.length)) (hx h (l ++ [cell v]))) := by
  simp [newR, cellsOk, hc, hx_len, hx_push, cell]
theorem hx_st {h : Heap} {l : List Blk} {k : Nat} {u v : Value} (e : l[k]? = some (cell u)) (hc : cellOk v = true) :
    stR (hx h l) (pt (h.len + k)) v = some (.ret undef (hx h (l.set k (cell v)))) := by
  rw [pt, stR_cells ((hx_new k).trans e) (by simp) hc]
  simp [hx_upd, cell]
theorem hx_ld {h : Heap} {l : List Blk} {k : Nat} {u : Value} (e : l[k]? = some (cell u)) : ldR (hx h l) (pt (h.len + k)) = some (.ret u (hx h l)) :=
  ldR_cells ((hx_new k).trans e) rfl
theorem hx_ld0 {h : Heap} {l : List Blk} {u : Value} (e : l[0]? = some (cell u)) : ldR (hx h l) (pt h.len) = some (.ret u (hx h l)) := hx_ld (k := 0) e

theorem funcV_pts (f : Nat) (cs : List Nat) : funcV (.func f) [] (cs.map pt) = some (fv f cs) := by
  have : ((cs.map pt).all clean) = true := by simp [clean, pt]
  simp only [funcV, List.all_nil, this, Bool.and_true, cond_true, fv]
  rfl
theorem cellOk_fv (f : Nat) (cs : List Nat) : cellOk (fv f cs) = true := rfl

/-- What a deed's begin leaves behind the blocks that were there. -/
def madeL (T hb e : Nat) (algo : Int) : List Blk := (envC T hb e algo).map cell

theorem made_env {h : Heap} {T hb : Nat} {algo : Int} (k : Nat) (v : Value) (hk : (envC T hb h.len algo)[k]? = some v) : (hx h (madeL T hb h.len algo)).bs[h.len + k]? = some (.cells [v] 0 false) := by
  rw [hx_new, madeL, List.getElem?_map, hk]; rfl

theorem lock_made (h : Heap) (T hb : Nat) (n : Nat) : run (n + 1) 29 [pt T, pt hb] h = some (.ret (stV h.len (some .l0)) (hx h (madeL T hb h.len 1))) := by
  rw [run, callR_succ, eq29]
  have f1 := funcV_pts 37 [h.len + 1, h.len + 3]
  have f2 := funcV_pts 39 [h.len + 1, h.len + 2]
  have f3 := funcV_pts 45 [h.len, h.len + 1, h.len + 2]
  simp only [List.map] at f1 f2 f3
  have e0 : boxR 1 h (pt T) = some (.ret (pt h.len) (hx h [cell (pt T)])) := by have := hx_box (h := h) (l := []) (v := pt T) rfl rfl; simpa [hx_nil] using this
  simp only [f29, e0, bindR_ret, hx_box (v := pt hb) rfl rfl, hx_new1 (v := .nilFunc) rfl, List.length_cons, List.length_nil, List.cons_append, List.nil_append, pureR_some, f1, f2, f3]
  rw [hx_st (k := 2) (u := .nilFunc) rfl rfl]
  simp only [bindR_ret]
  rw [hx_st (k := 3) (u := .nilFunc) rfl rfl]
  rfl

theorem lazy_made (h : Heap) (T hb : Nat) (n : Nat) : run (n + 1) 30 [pt T, pt hb] h = some (.ret (stV h.len (some .z0)) (hx h (madeL T hb h.len 2))) := by
  rw [run, callR_succ, eq30]
  have f0 := funcV_pts 47 [h.len, h.len + 1, h.len + 3]
  have f1 := funcV_pts 48 [h.len + 1, h.len + 4]
  have f2 := funcV_pts 49 [h.len + 4, h.len + 1, h.len + 5]
  have f3 := funcV_pts 50 [h.len + 1, h.len + 6]
  have f4 := funcV_pts 51 [h.len + 1, h.len + 2, h.len + 7]
  have f5 := funcV_pts 52 [h.len + 1]
  simp only [List.map] at f0 f1 f2 f3 f4 f5
  have e0 : boxR 1 h (pt T) = some (.ret (pt h.len) (hx h [cell (pt T)])) := by have := hx_box (h := h) (l := []) (v := pt T) rfl rfl; simpa [hx_nil] using this
  simp only [f30, e0, bindR_ret, hx_box (v := pt hb) rfl rfl, hx_new1 (v := .nilFunc) rfl, List.length_cons, List.length_nil, List.cons_append, List.nil_append, Nat.zero_add, Nat.reduceAdd, pureR_some, f0, f1, f2, f3, f4, f5]
  rw [hx_st (k := 2) (u := .nilFunc) rfl rfl]; simp only [bindR_ret]
  rw [hx_st (k := 3) (u := .nilFunc) rfl rfl]; simp only [bindR_ret]
  rw [hx_st (k := 4) (u := .nilFunc) rfl rfl]; simp only [bindR_ret]
  rw [hx_st (k := 5) (u := .nilFunc) rfl rfl]; simp only [bindR_ret]
  rw [hx_st (k := 6) (u := .nilFunc) rfl rfl]; simp only [bindR_ret]
  rw [hx_st (k := 7) (u := .nilFunc) rfl rfl]; simp only [bindR_ret]
  rw [hx_ld (k := 2) (u := fv 47 [h.len, h.len + 1, h.len + 3]) rfl]
  rfl

theorem mark_made (h : Heap) (T hb : Nat) (n : Nat) {algo : Int} (h1 : algo ≠ 1) (h2 : algo ≠ 2) : run (n + 1) 31 [pt T, pt hb] h = some (.ret (stV h.len (some .m0)) (hx h (madeL T hb h.len algo))) := by
  rw [run, callR_succ, eq31]
  have f0 := funcV_pts 53 [h.len + 1]
  have f1 := funcV_pts 54 [h.len, h.len + 1, h.len + 3]
  have f2 := funcV_pts 55 [h.len + 1, h.len + 6, h.len + 2, h.len + 4]
  have f3 := funcV_pts 56 [h.len, h.len + 1, h.len + 6, h.len + 5, h.len + 2]
  have f4 := funcV_pts 57 [h.len + 6, h.len + 1]
  simp only [List.map] at f0 f1 f2 f3 f4
  have e0 : boxR 1 h (pt T) = some (.ret (pt h.len) (hx h [cell (pt T)])) := by have := hx_box (h := h) (l := []) (v := pt T) rfl rfl; simpa [hx_nil] using this
  simp only [f31, e0, bindR_ret, hx_box (v := pt hb) rfl rfl, hx_new1 (v := .nilFunc) rfl, List.length_cons, List.length_nil, List.cons_append, List.nil_append, Nat.zero_add, Nat.reduceAdd, pureR_some, f0, f1, f2, f3, f4]
  rw [hx_st (k := 6) (u := .nilFunc) rfl rfl]; simp only [bindR_ret]
  rw [hx_st (k := 2) (u := .nilFunc) rfl rfl]; simp only [bindR_ret]
  rw [hx_st (k := 3) (u := .nilFunc) rfl rfl]; simp only [bindR_ret]
  rw [hx_st (k := 4) (u := .nilFunc) rfl rfl]; simp only [bindR_ret]
  rw [hx_st (k := 5) (u := .nilFunc) rfl rfl]; simp only [bindR_ret]
  rw [hx_ld (k := 2) (u := fv 54 [h.len, h.len + 1, h.len + 3]) rfl]
  simp only [madeL, envC, if_neg h1, if_neg h2]
  rfl

/-- The first thing that a hand does. -/
def St.start (algo : Int) : St := if algo = 1 then .l0 else if algo = 2 then .z0 else .m0
def wayF (algo : Int) : Nat := if algo = 1 then 29 else if algo = 2 then 30 else 31

theorem way_made (h : Heap) (T hb : Nat) (n : Nat) (algo : Int) : run (n + 1) (wayF algo) [pt T, pt hb] h = some (.ret (stV h.len (some (St.start algo))) (hx h (madeL T hb h.len algo))) := by
  unfold wayF St.start
  by_cases h1 : algo = 1
  · subst h1; exact lock_made h T hb n
  · by_cases h2 : algo = 2
    · subst h2; exact lazy_made h T hb n
    · simp only [if_neg h1, if_neg h2]; exact mark_made h T hb n h1 h2
end Go.Ha

namespace Go.Ha
open Go.AM Go.Proofs.YtejokpfeepbfeaaAm

def Sys.tell (S : Sys) (j : Nat) (l : List Dn) : Sys := { S with told := setF S.told j l }
def Lay.tell (L : Lay) (j b : Nat) : Lay := { L with tb := setF L.tb j b, role := setF L.role b (.told j) }

/-- The same layout, but for beads, a deed's cells, told rows and roles. -/
def Keep (L L' : Lay) : Prop := ∃ nb eb tb role, L' = { L with nb := nb, eb := eb, tb := tb, role := role }
theorem Keep.refl (L : Lay) : Keep L L := ⟨_, _, _, _, rfl⟩
theorem Keep.trans {L1 L2 L3 : Lay} (a : Keep L1 L2) (b : Keep L2 L3) : Keep L1 L3 := by
  obtain ⟨_, _, _, _, rfl⟩ := a; obtain ⟨_, _, _, _, rfl⟩ := b; exact ⟨_, _, _, _, rfl⟩
theorem Same.keep {L L' : Lay} (a : Same L L') : Keep L L' := by obtain ⟨_, _, rfl⟩ := a; exact ⟨_, _, _, _, rfl⟩
theorem Keep.tell (L : Lay) (j b : Nat) : Keep L (L.tell j b) := ⟨_, _, _, _, rfl⟩
theorem Keep.begun (L : Lay) (j b : Nat) : Keep L (L.begun j b) := ⟨_, _, _, _, rfl⟩
theorem Keep.T {L L' : Lay} (a : Keep L L') : L'.T = L.T := by obtain ⟨_, _, _, _, rfl⟩ := a; rfl
theorem Keep.hb {L L' : Lay} (a : Keep L L') : L'.hb = L.hb := by obtain ⟨_, _, _, _, rfl⟩ := a; rfl
theorem Keep.TA {L L' : Lay} (a : Keep L L') : L'.TA = L.TA := by obtain ⟨_, _, _, _, rfl⟩ := a; rfl
theorem Keep.HA {L L' : Lay} (a : Keep L L') : L'.HA = L.HA := by obtain ⟨_, _, _, _, rfl⟩ := a; rfl
theorem Keep.pv {L L' : Lay} (a : Keep L L') : L'.pv = L.pv := by obtain ⟨_, _, _, _, rfl⟩ := a; rfl
theorem Keep.inp {L L' : Lay} (a : Keep L L') : L'.inp = L.inp := by obtain ⟨_, _, _, _, rfl⟩ := a; rfl

section
variable {h : Heap} {S : Sys} {L : Lay}

theorem Rep.toldS (R : Rep h S L) {j : Nat} (l : List Dn) {b : Nat} {h' : Heap} (hb : h.len ≤ b ∨ L.role b = .told j)
    (hsame : ∀ (i : Nat) (y : Blk), h.bs[i]? = some y → L.role i ≠ .ta → L.role i ≠ .told j → h'.bs[i]? = some y)
    (hta : ∃ r, h'.bs[L.TA]? = some (.cells r 0 false) ∧ ∀ i, i < S.nh → r[i]? = some (toldV (setF L.tb j b i) (setF S.told j l i)))
    (hto : l ≠ [] → h'.bs[b]? = some (.cells (l.flatMap dnC) 5 false)) : Rep h' (S.tell j l) (L.tell j b) := by
  have nb : ∀ {i : Nat} {y : Blk} {r : Role}, h.bs[i]? = some y → L.role i = r → r ≠ .told j → setF L.role b (.told j) i = r := by
    intro i y r hi hr hn
    have := lt_len hi
    rcases hb with hb | hb
    · rw [setF_ne _ _ (by omega)]; exact hr
    · rw [setF_ne _ _ (fun e => by subst e; exact hn (by rw [← hr, hb]))]; exact hr
  have go : ∀ {i : Nat} {y : Blk} {r : Role}, h.bs[i]? = some y → L.role i = r → r ≠ .ta → r ≠ .told j → h'.bs[i]? = some y ∧ setF L.role b (.told j) i = r :=
    fun hi hr h1 h2 => ⟨hsame _ _ hi (by rw [hr]; exact h1) (by rw [hr]; exact h2), nb hi hr h2⟩
  refine { tab := ?_, tabR := ?_, ha := ?_, haR := ?_, ta := hta, taR := ?_, first := R.first, next := R.next, node := ?_, hand := ?_, handR := ?_, env := ?_, told := ?_, inp := ?_, prog := R.prog }
  · obtain ⟨k, e, hk⟩ := R.tab; exact ⟨k, (go e R.tabR (by simp) (by simp)).1, hk⟩
  · obtain ⟨k, e, _⟩ := R.tab; exact (go e R.tabR (by simp) (by simp)).2
  · intro h0; obtain ⟨r, e, h2⟩ := R.ha h0; exact ⟨r, (go e (R.haR h0) (by simp) (by simp)).1, h2⟩
  · intro h0; obtain ⟨r, e, h2⟩ := R.ha h0; exact (go e (R.haR h0) (by simp) (by simp)).2
  · obtain ⟨r, e, h2⟩ := R.ta; exact nb e R.taR (by simp)
  · intro i hi; have h2 := R.node i hi; exact go h2.1 h2.2 (by simp) (by simp)
  · intro i hi; obtain ⟨vp, vc, e, h2⟩ := R.hand i hi; exact ⟨vp, vc, (go e (R.handR i hi) (by simp) (by simp)).1, h2⟩
  · intro i hi; obtain ⟨vp, vc, e, h2⟩ := R.hand i hi; exact (go e (R.handR i hi) (by simp) (by simp)).2
  · intro i s hi hs k v hk; have := R.env i s hi hs k v hk; exact go this.1 this.2 (by simp) (by simp)
  · intro i hi ht
    simp only [Lay.tell, Sys.tell] at ht ⊢
    by_cases hij : i = j
    · subst hij; simp only [setF_same] at ht ⊢; exact ⟨hto ht, trivial⟩
    · rw [setF_ne _ _ hij] at ht ⊢; rw [setF_ne _ _ hij]; have := R.told i hi ht; exact go this.1 this.2 (by simp) (by simp [hij])
  · intro i r hi; have := R.inp i r hi; exact go this.1 this.2 (by simp) (by simp)

def dnV (d : Dn) : Value := .agg #[.int .i64 d.who, .int .i64 d.deed, .int .i64 d.beg, .int .i64 d.fin, .bool d.is]

theorem dnC_len (l : List Dn) : (l.flatMap dnC).length = l.length * 5 := by
  induction l with
  | nil => rfl
  | cons d l ih => simp [List.flatMap_cons, dnC] at ih ⊢; omega

theorem cellsOk_dnC (d : Dn) : cellsOk (dnC d) = true := rfl

theorem build_dn (h : Heap) (d : Dn) : buildSliceR 1 [(.int .i64 0), (.int .i64 0), (.int .i64 0), (.int .i64 0), (.bool false)] h [(0, 5, dnV d)] =
    some (.ret (.slice (some ⟨h.len, 0, none⟩) 1 1) (h.push (.cells (dnC d) 0 false))) := by
  have : fillL (zeros [(.int .i64 0), (.int .i64 0), (.int .i64 0), (.int .i64 0), (.bool false)] 1) [(0, 5, dnV d)] = some (dnC d) := rfl
  simp only [buildSliceR, this, Option.bind_some, cellsOk_dnC, cond_true]

theorem elems_row {h : Heap} {size n b : Nat} {c : List Value} {k : Nat} {s : Bool} (hb : h.bs[b]? = some (.cells c k s)) (hl : c.length = n * size) {cap : Nat} :
    elemsOf h size n (.slice (some ⟨b, 0, none⟩) n cap) = some c := by
  have e1 : Nat.ble n n = true := by simp
  have e2 : Nat.ble (0 + n * size) c.length = true := by rw [Nat.ble_eq]; omega
  simp only [elemsOf, e1, cond_true, Heap.row, hb, Option.bind_some, cut, e2, List.drop_zero]
  rw [List.take_of_length_le (by omega)]

/-- One more deed is told of hand j. -/
theorem Rep.tellMore (R : Rep h S L) {j : Nat} (hj : j < S.nh) (hl : (S.told j).length ≤ 1000) (d : Dn) :
    ∃ hA sl hB v hC b, buildSliceR 1 [(.int .i64 0), (.int .i64 0), (.int .i64 0), (.int .i64 0), (.bool false)] h [(0, 5, dnV d)] = some (.ret sl hA) ∧
      appR 5 40 hA (toldV (L.tb j) (S.told j)) sl = some (.ret v hB) ∧
      ldR hB (.pointer (some ⟨L.T, 4, none⟩)) = some (.ret (.slice (some ⟨L.TA, 0, none⟩) S.nh S.nh) hB) ∧
      stR hB (.pointer (some ⟨L.TA, 0 + j * 1, none⟩)) v = some (.ret undef hC) ∧
      Rep hC (S.tell j (S.told j ++ [d])) (L.tell j b) := by
  have hnew : elemsOf (h.push (.cells (dnC d) 0 false)) 5 1 (.slice (some ⟨h.len, 0, none⟩) 1 1) = some (dnC d) := elems_row push_new rfl
  have hk1 : (Nat.ble ((S.told j).length + 1) (S.told j).length) = false := by
    rw [← Bool.not_eq_true, Nat.ble_eq]; omega
  have hk2 : Nat.ble (((S.told j).length + 1) * 40) 70368744177664 = true := by rw [Nat.ble_eq]; omega
  have hk3 : Nat.ble ((S.told j).length + 1) 70368744177664 = true := by rw [Nat.ble_eq]; omega
  have hk4 : (Nat.ble 1 5) = true := rfl
  have hk5 : (Nat.beq (dnC d).length (1 * 5)) = true := rfl
  -- the heap behind the old row's end
  have main : ∃ hK : Heap, hK.bs.length = (h.push (.cells (dnC d) 0 false)).bs.length ∧ (∀ (i : Nat) (y : Blk), h.bs[i]? = some y → L.role i ≠ .told j → hK.bs[i]? = some y) ∧
      appR 5 40 (h.push (.cells (dnC d) 0 false)) (toldV (L.tb j) (S.told j)) (.slice (some ⟨h.len, 0, none⟩) 1 1) =
        some (.ret (.slice (some ⟨h.len + 1, 0, none⟩) ((S.told j).length + 1) ((S.told j).length + 1)) (hK.push (.cells ((S.told j).flatMap dnC ++ dnC d) 5 false))) := by
    have hlen : (h.push (.cells (dnC d) 0 false)).len = h.len + 1 := by simp [Heap.push, Heap.len]
    by_cases ht : S.told j = []
    · refine ⟨h.push (.cells (dnC d) 0 false), rfl, fun i y hi _ => push_old hi, ?_⟩
      have k1 : Nat.ble (0 + 1) 0 = false := rfl
      have k2 : Nat.ble ((0 + 1) * 40) 70368744177664 = true := by rw [Nat.ble_eq]; omega
      have k3 : Nat.ble (0 + 1) 70368744177664 = true := by rw [Nat.ble_eq]; omega
      have k6 : elemsOf (h.push (.cells (dnC d) 0 false)) 5 0 (.slice none 0 0) = some [] := rfl
      simp only [ht, toldV, appR, lenOf, Option.bind_some, hnew, k1, cond_false, k2, k3, hk4, hk5, cellsOk_dnC, Bool.and_true, cond_true, k6, roomOf, Heap.kill, hlen, List.flatMap_nil, List.nil_append, List.length_nil]
    · obtain ⟨hrow, hrole⟩ := R.told j hj ht
      have hrow' := push_old (x := .cells (dnC d) 0 false) hrow
      have hv : toldV (L.tb j) (S.told j) = .slice (some ⟨L.tb j, 0, none⟩) (S.told j).length (S.told j).length := by
        unfold toldV; split
        · rename_i e; exact absurd e ht
        · rfl
      have k6 : elemsOf (h.push (.cells (dnC d) 0 false)) 5 (S.told j).length (.slice (some ⟨L.tb j, 0, none⟩) (S.told j).length (S.told j).length) = some ((S.told j).flatMap dnC) :=
        elems_row hrow' (dnC_len _)
      have k7 : Nat.ble (0 + (S.told j).length * 5) ((S.told j).flatMap dnC).length = true := by rw [Nat.ble_eq, dnC_len]; omega
      have k8 : roomOf (h.push (.cells (dnC d) 0 false)) 5 (S.told j).length (some ⟨L.tb j, 0, none⟩) = some false := by
        simp only [roomOf, hrow', k7, Bool.and_true]; rfl
      refine ⟨(h.push (.cells (dnC d) 0 false)).upd (L.tb j) .dead, by simp [Heap.upd], fun i y hi hr => ?_, ?_⟩
      · rw [upd_ne (fun e => hr (by rw [e, hrole]))]; exact push_old hi
      · simp only [hv, appR, lenOf, Option.bind_some, hnew, hk1, cond_false, hk2, hk3, hk4, hk5, cellsOk_dnC, Bool.and_true, cond_true, k6, k8, Heap.kill, hrow', hlen]
  obtain ⟨hK, hKl, hKo, happ⟩ := main
  have hKlen : hK.len = h.len + 1 := by simp only [Heap.len] at *; rw [hKl]; simp [Heap.push]
  have hnewB : (hK.push (.cells ((S.told j).flatMap dnC ++ dnC d) 5 false)).bs[h.len + 1]? = some (.cells ((S.told j).flatMap dnC ++ dnC d) 5 false) := by rw [← hKlen]; exact push_new
  obtain ⟨r, hTA, hr⟩ := R.ta
  have hTA1 : (hK.push (.cells ((S.told j).flatMap dnC ++ dnC d) 5 false)).bs[L.TA]? = some (.cells r 0 false) := push_old (hKo _ _ hTA (by rw [R.taR]; simp))
  have hjr : j < r.length := (List.getElem?_eq_some_iff.1 (hr j hj)).1
  refine ⟨_, _, _, _, _, h.len + 1, build_dn h d, happ, ?_, stR_cells hTA1 (by omega) rfl, ?_⟩
  · obtain ⟨k, e, _⟩ := R.tab
    exact ldR_cells (push_old (hKo _ _ e (by rw [R.tabR]; simp))) rfl
  · refine R.toldS _ (.inl (by omega)) ?_ ?_ ?_
    · intro i y hi h1 h2
      rw [upd_ne (fun e => h1 (by rw [e, R.taR]))]
      exact push_old (hKo i y hi h2)
    · refine ⟨_, upd_eq hTA1, fun i hi => ?_⟩
      by_cases hij : i = j
      · subst hij
        have e0 : 0 + i * 1 = i := by omega
        rw [e0, List.getElem?_set_self hjr]
        simp only [setF_same]
        have : toldV (h.len + 1) (S.told i ++ [d]) = .slice (some ⟨h.len + 1, 0, none⟩) ((S.told i).length + 1) ((S.told i).length + 1) := by
          unfold toldV; split
          · rename_i e; simp at e
          · simp
        rw [this]
      · have e0 : 0 + j * 1 = j := by omega
        rw [e0, List.getElem?_set_ne (by omega), setF_ne _ _ hij, setF_ne _ _ hij]; exact hr i hi
    · intro _
      have hb : h.len + 1 ≠ L.TA := by have := lt_len hTA; omega
      rw [upd_ne hb, hnewB]; simp [List.flatMap_append]

theorem flat_set {l : List Dn} : ∀ {pos : Nat} {d : Dn}, l[pos]? = some d → ∀ (fin : Int) (is : Bool),
    ((l.flatMap dnC).set (0 + pos * 5 + 3) (.int .i64 fin)).set (0 + pos * 5 + 4) (.bool is) = (l.set pos { d with fin := fin, is := is }).flatMap dnC := by
  induction l with
  | nil => intro pos d hd; simp at hd
  | cons x l ih =>
    intro pos d hd fin is
    cases pos with
    | zero => simp at hd; subst hd; simp [List.flatMap_cons, dnC]
    | succ pos =>
      have := ih (pos := pos) (d := d) (by simpa using hd) fin is
      have e3 : 0 + (pos + 1) * 5 + 3 = 0 + pos * 5 + 3 + 1 + 1 + 1 + 1 + 1 := by omega
      have e4 : 0 + (pos + 1) * 5 + 4 = 0 + pos * 5 + 4 + 1 + 1 + 1 + 1 + 1 := by omega
      rw [e3, e4]
      simp only [List.flatMap_cons, dnC, List.cons_append, List.nil_append, List.set_cons_succ]
      exact congrArg _ (congrArg _ (congrArg _ (congrArg _ (congrArg _ this))))

/-- A deed's end is told. -/
theorem Rep.tellEnd (R : Rep h S L) {j : Nat} (hj : j < S.nh) {pos : Nat} {d : Dn} (hd : (S.told j)[pos]? = some d) (fin : Int) (is : Bool) :
    ∃ hA hB, stR h (.pointer (some ⟨L.tb j, 0 + pos * 5 + 3, none⟩)) (.int .i64 fin) = some (.ret undef hA) ∧ stR hA (.pointer (some ⟨L.tb j, 0 + pos * 5 + 4, none⟩)) (.bool is) = some (.ret undef hB) ∧
      Rep hB (S.tell j ((S.told j).set pos { d with fin := fin, is := is })) (L.tell j (L.tb j)) := by
  have ht : S.told j ≠ [] := fun e => by rw [e] at hd; simp at hd
  obtain ⟨hrow, hrole⟩ := R.told j hj ht
  have hpos := (List.getElem?_eq_some_iff.1 hd).1
  have e1 := stR_cells (o := 0 + pos * 5 + 3) (v := .int .i64 fin) hrow (by rw [dnC_len]; omega) rfl
  have e2 := stR_cells (o := 0 + pos * 5 + 4) (v := .bool is) (upd_eq (x := .cells (((S.told j).flatMap dnC).set (0 + pos * 5 + 3) (.int .i64 fin)) 5 false) hrow) (by rw [List.length_set, dnC_len]; omega) rfl
  refine ⟨_, _, e1, e2, R.toldS _ (.inr hrole) ?_ ?_ ?_⟩
  · intro i y hi _ h2
    rw [upd_ne (fun e => h2 (by rw [e, hrole])), upd_ne (fun e => h2 (by rw [e, hrole]))]; exact hi
  · obtain ⟨r, hTA, hr⟩ := R.ta
    have hne : L.TA ≠ L.tb j := fun e => by have := R.taR; rw [e, hrole] at this; simp at this
    refine ⟨r, by rw [upd_ne hne, upd_ne hne]; exact hTA, fun i hi => ?_⟩
    rw [hr i hi]
    by_cases hij : i = j
    · subst hij; simp only [setF_same]
      unfold toldV
      split
      · rename_i e; exact absurd e ht
      · split
        · rename_i e; have := congrArg List.length e; simp at this; rw [this] at ht; exact absurd rfl ht
        · simp
    · rw [setF_ne _ _ hij, setF_ne _ _ hij]
  · intro _
    rw [upd_eq (upd_eq hrow), flat_set hd]

end
end Go.Ha

namespace Go.Ha
open Go.AM Go.Proofs.YtejokpfeepbfeaaAm

/-- The deed that begins now is told. -/
def beginD (S : Sys) (j : Nat) : Dn := ⟨j, (S.hands j).pos, S.now, -1, false⟩
def beginS (S : Sys) (j : Nat) : Sys := if (S.hands j).st = none then (S.setH j { S.hands j with st := some (St.start S.algo), is := false }).tell j (S.told j ++ [beginD S j]) else S
def endS (S : Sys) (j : Nat) : Sys :=
  let x := S.hands j
  (S.tell j ((S.told j).modify x.pos fun d => { d with fin := S.now, is := x.is })).setH j { x with pos := x.pos + 1, st := none }
def Sys.tick (S : Sys) : Sys := { S with now := S.now + 1 }

/-- A step of hand j. -/
def Sys.step (S : Sys) (j : Nat) : Sys :=
  match (S.hands j).prog[(S.hands j).pos]? with
  | none => S
  | some (kd, k) =>
    let r := act (beginS S j) j kd k
    (if r.2 then endS r.1 j else r.1).tick

section
variable {h : Heap} {S : Sys} {L : Lay}

def wayV (T : Nat) (f : Nat) : Value := .func (.func f) #[pt T] #[]
def ways (T : Nat) : Blk := .map true [(.int .i64 1, wayV T 29), (.int .i64 2, wayV T 30), (.int .i64 3, wayV T 31), (.int .i64 4, wayV T 31)]

theorem upd_push (h : Heap) (x y : Blk) : (h.push x).upd h.len y = h.push y := by
  simp [Heap.push, Heap.upd, Heap.len]

theorem updR_push (h : Heap) (es es' : List (Value × Value)) (k : Int) (v : Value) (hv : clean v = true) (e : setK (.int .i64 k) v es = some es') :
    updR true (h.push (.map true es)) (.map (some h.len)) (.int .i64 k) v = some (.ret undef (h.push (.map true es'))) := by
  simp [updR, isKey, hv, push_new, e, upd_push]

theorem way_look (h : Heap) (T : Nat) {algo : Int} (ha : 1 ≤ algo ∧ algo ≤ 4) : lookR true .nilFunc false (h.push (ways T)) (.map (some h.len)) (.int .i64 algo) = some (.ret (wayV T (wayF algo)) (h.push (ways T))) := by
  have : algo = 1 ∨ algo = 2 ∨ algo = 3 ∨ algo = 4 := by omega
  rcases this with rfl | rfl | rfl | rfl <;> simp [lookR, isKey, push_new, ways, findK, keyEq, wayF]

theorem hx_push0 (h : Heap) (x : Blk) (l : List Blk) : hx (h.push x) l = hx h (x :: l) := by simp [hx, Heap.push]

theorem begin_step (R : Rep h S L) {j : Nat} (hj : j < S.nh) (hst : (S.hands j).st = none) (ha : 1 ≤ S.algo ∧ S.algo ≤ 4) (hl : (S.told j).length ≤ 1000) (n m : Nat) :
    ∃ h' L', f18j1 (run (n + 1)) m (pt L.T) (.int .i64 j) (pt (L.hb j)) h = f18j2 (run (n + 1)) m (pt L.T) (.int .i64 j) (pt (L.hb j)) h' ∧ Rep h' (beginS S j) L' ∧ Keep L L' := by
  have fw : ∀ f, funcV (.func f) [pt L.T] [] = some (wayV L.T f) := fun f => rfl
  have R0 := R.push (ways L.T)
  have hm := way_made (h.push (ways L.T)) L.T (L.hb j) n S.algo
  have R1 := R0.cells (h1 := hx (h.push (ways L.T)) (madeL L.T (L.hb j) (h.push (ways L.T)).len S.algo)) (fun b y e => hx_old e) hst
  obtain ⟨h2, e2, R2⟩ := R1.start (j := j) hj (St.start S.algo) (fun k v hk => by
    simp only [Lay.begun, setF_same] at hk ⊢
    exact ⟨made_env k v hk, by rw [if_pos (by omega)]⟩)
  simp only [Lay.begun, setF_same] at e2
  obtain ⟨h3, e3, R3⟩ := R2.sis (j := j) hj false
  obtain ⟨S3, hS3⟩ : ∃ S3, S3 = S.setH j { S.hands j with st := some (St.start S.algo), is := false } := ⟨_, rfl⟩
  have R3' : Rep h3 S3 (L.begun j (h.push (ways L.T)).len) := by rw [setH_setH, hands_setH] at R3; rw [hS3]; exact R3
  clear R3
  have n1 : S3.nh = S.nh := by rw [hS3]; rfl
  have n2 : S3.told = S.told := by rw [hS3]; rfl
  have n3 : S3.now = S.now := by rw [hS3]; rfl
  have n4 : (S3.hands j).pos = (S.hands j).pos := by rw [hS3, hands_setH]
  have hj3 : j < S3.nh := by rw [n1]; exact hj
  obtain ⟨hA, sl, hB, v, hC, b, b1, b2, b3, b4, R4⟩ := R3'.tellMore (j := j) hj3 (by rw [n2]; exact hl) (beginD S j)
  refine ⟨hC, _, ?_, ?_, (Keep.begun L j (h.push (ways L.T)).len).trans (Keep.tell _ j b)⟩
  · have hd : (Option.map (fun c => Value.agg c.toArray) (fillL [(.int .i64 0), (.int .i64 0), (.int .i64 0), (.int .i64 0), (.bool false)] [(0, 1, .int .i64 j), (1, 1, .int .i64 (S.hands j).pos), (2, 1, .int .i64 S.now), (3, 1, (.int .i64 (-1)))])) = some (dnV (beginD S j)) := rfl
    have g0 : newMapR true h = some (.ret (.map (some h.len)) (h.push (.map true []))) := rfl
    have g1 := updR_push h [] [(.int .i64 1, wayV L.T 29)] 1 (wayV L.T 29) rfl rfl
    have g2 := updR_push h [(.int .i64 1, wayV L.T 29)] [(.int .i64 1, wayV L.T 29), (.int .i64 2, wayV L.T 30)] 2 (wayV L.T 30) rfl rfl
    have g3 := updR_push h [(.int .i64 1, wayV L.T 29), (.int .i64 2, wayV L.T 30)] [(.int .i64 1, wayV L.T 29), (.int .i64 2, wayV L.T 30), (.int .i64 3, wayV L.T 31)] 3 (wayV L.T 31) rfl rfl
    have g4 : updR true (h.push (.map true [(.int .i64 1, wayV L.T 29), (.int .i64 2, wayV L.T 30), (.int .i64 3, wayV L.T 31)])) (.map (some h.len)) (.int .i64 4) (wayV L.T 31) = some (.ret undef (h.push (ways L.T))) :=
      updR_push h _ _ 4 (wayV L.T 31) rfl rfl
    have c1 : callV (run (n + 1)) (h.push (ways L.T)) (wayV L.T (wayF S.algo)) [pt (L.hb j)] = run (n + 1) (wayF S.algo) [pt L.T, pt (L.hb j)] (h.push (ways L.T)) := rfl
    have q0 := R0.t0
    have r1 := R3'.t4
    have r2 := R3'.ta1 (j := j) hj3
    have r3 := R3'.h1 (j := j) hj3
    have r4 := R3'.t3
    simp only [Lay.begun] at e3 r1 r2 r3 r4 b1 b2 b3 b4
    rw [n1] at r1 b3
    rw [n2] at r2 b2
    rw [n3] at r4
    rw [n4] at r3
    have gT : agn1 hB (.pointer (some ⟨L.T, 4, none⟩)) (.slice (some ⟨L.TA, 0, none⟩) S.nh S.nh) = true := agn1_of b3 (by simp [veq])
    have hi := idxS_nat (size := 1) (b := L.TA) (o := 0) (c := S.nh) hj
    simp only [f18j1, pt, bindR_ret, noPan_ret, pureR_some, nonnil_q, padd_q, Nat.zero_add, R.h2 hj, hst, stV, funcE, eqNeq_eql, ifR_true]
    simp only [g0, bindR_ret, pureR_some, fw, g1, g2, g3, g4, q0, way_look h L.T ha, c1, hm, e2, e3]
    simp only [bindR_ret, noPan_ret, pureR_some, Bool.and_true, guardR_true, r1, hi, r2, r3, r4, hd, b1, b2, gT, b4]
  · rw [n2, hS3] at R4
    unfold beginS
    rw [if_pos hst]
    exact R4

theorem Rep.setTick (R : Rep h S L) (hn : S.now < 1000000) : ∃ h', stR h (.pointer (some ⟨L.T, 3, none⟩)) (.int .i64 (S.now + 1 : Nat)) = some (.ret undef h') ∧ Rep h' S.tick L := R.snow (S.now + 1)

theorem wrap_in {n : Int} (h : -9223372036854775808 ≤ n ∧ n ≤ 9223372036854775807) : IntKind.i64.wrap n = n := Go.IntWalk.i64_in n h

theorem intB_inc {n : Nat} (h : n < 1000000) : intB .add (.int .i64 n) (.int .i64 1) = some (.int .i64 (n + 1 : Nat)) := by
  have : IntKind.i64.wrap ((n : Int) + 1) = (n + 1 : Nat) := by rw [wrap_in (by omega)]; rfl
  simp [intB, isShift, intV, this]

theorem tick_step (R : Rep h S L) (hn : S.now < 1000000) (cr : FuncId → List Value → Heap → Res) (m : Nat) :
    ∃ h', f18j3 cr m (pt L.T) h = some (.ret (.bool true) h') ∧ Rep h' S.tick L := by
  obtain ⟨h1, e1, R1⟩ := R.setTick hn
  refine ⟨h1, ?_, R1⟩
  simp only [f18j3, pt, bindR_ret, pureR_some, nonnil_q, padd_q, Nat.zero_add, R.t3, intB_inc hn, e1, clean, Option.bind_some, cond_true, tup]

theorem idxS_told {tb i : Nat} {l : List Dn} (hi : i < l.length) : idxS 5 (toldV tb l) (.int .i64 i) = some (.pointer (some ⟨tb, 0 + i * 5, none⟩)) := by
  cases l with
  | nil => simp at hi
  | cons d l => exact idxS_nat hi

theorem first_told (S : Sys) (j p : Nat) : (first S j p).told = S.told := by unfold first; split <;> rfl
theorem act_told (S : Sys) (j : Nat) (kd k : Int) : (act S j kd k).1.told = S.told := by
  unfold act; dsimp only; repeat' split
  all_goals first | rfl | exact first_told _ _ _
theorem act_now (S : Sys) (j : Nat) (kd k : Int) : (act S j kd k).1.now = S.now := by
  unfold act first; dsimp only; repeat' split
  all_goals rfl
theorem act_nh (S : Sys) (j : Nat) (kd k : Int) : (act S j kd k).1.nh = S.nh := by
  unfold act first; dsimp only; repeat' split
  all_goals rfl
theorem act_algo (S : Sys) (j : Nat) (kd k : Int) : (act S j kd k).1.algo = S.algo := by
  unfold act first; dsimp only; repeat' split
  all_goals rfl
theorem act_pos (S : Sys) (j i : Nat) (kd k : Int) : ((act S j kd k).1.hands i).pos = (S.hands i).pos ∧ ((act S j kd k).1.hands i).prog = (S.hands i).prog := by
  unfold act first; dsimp only; repeat' split
  all_goals simp only [Sys.lockN, Sys.markN, Sys.nextN, Sys.setH, Sys.setN, Sys.add, setF]
  all_goals first | exact ⟨rfl, rfl⟩ | exact ⟨trivial, trivial⟩ | (split <;> (try subst_vars) <;> exact ⟨rfl, rfl⟩)
theorem act_others (S : Sys) (j i : Nat) (kd k : Int) (hij : i ≠ j) : (act S j kd k).1.hands i = S.hands i := by
  unfold act first; dsimp only; repeat' split
  all_goals simp only [Sys.lockN, Sys.markN, Sys.nextN, Sys.setH, Sys.setN, Sys.add, setF_ne _ _ hij]

theorem modify_set {α : Type} {f : α → α} {l : List α} : ∀ {i : Nat} {d : α}, l[i]? = some d → l.modify i f = l.set i (f d) := by
  induction l with
  | nil => intro i d hd; simp at hd
  | cons x l ih =>
    intro i d hd
    cases i with
    | zero => simp at hd; subst hd; rfl
    | succ i => simp only [List.modify_succ_cons, List.set_cons_succ]; rw [ih (by simpa using hd)]

theorem go_step (R : Rep h S L) {j : Nat} {kd k : Int} (W : Stands S j kd k) {d : Dn} (hd : (S.told j)[(S.hands j).pos]? = some d) (hp : (S.hands j).pos < 1000) (hn : S.now < 1000000) (n m : Nat) :
    ∃ h' L', f18j2 (run (n + 3)) m (pt L.T) (.int .i64 j) (pt (L.hb j)) h = some (.ret (.bool true) h') ∧
      Rep h' (if (act S j kd k).2 then endS (act S j kd k).1 j else (act S j kd k).1).tick L' ∧ Keep L L' := by
  obtain ⟨h1, L1, e1, R1, K1⟩ := act_ok R W n
  have hj := W.lt
  have e0 := R.h2 hj
  have K1' := K1.keep
  obtain ⟨S1, hS1⟩ : ∃ S1, S1 = (act S j kd k).1 := ⟨_, rfl⟩
  have q1 : S1.told = S.told := by rw [hS1]; exact act_told _ _ _ _
  have q2 : S1.now = S.now := by rw [hS1]; exact act_now _ _ _ _
  have q3 : S1.nh = S.nh := by rw [hS1]; exact act_nh _ _ _ _
  have q4 : (S1.hands j).pos = (S.hands j).pos := by rw [hS1]; exact (act_pos _ _ _ _ _).1
  rw [← hS1] at R1 ⊢
  have hj1 : j < S1.nh := by rw [q3]; exact hj
  have hd1 : (S1.told j)[(S1.hands j).pos]? = some d := by rw [q1, q4]; exact hd
  have kT := K1'.T
  have kTA := K1'.TA
  have khb := K1'.hb
  cases hb : (act S j kd k).2 with
  | false =>
    rw [hb] at e1
    obtain ⟨h2, e2, R2⟩ := tick_step R1 (by omega) (run (n + 3)) m
    rw [kT] at e2
    refine ⟨h2, L1, ?_, R2, K1'⟩
    simp only [pt] at e2
    simp only [f18j2, pt, bindR_ret, pureR_some, nonnil_q, padd_q, Nat.zero_add, e0, e1, ifR_false, e2]
  | true =>
    rw [hb] at e1
    obtain ⟨hA, hB, e2, e3, R2⟩ := R1.tellEnd hj1 hd1 S1.now (S1.hands j).is
    obtain ⟨hC, e4, R3⟩ := R2.spos (j := j) hj1 ((S1.hands j).pos + 1)
    obtain ⟨hD, e5, R4⟩ := R3.snil (j := j) hj1
    obtain ⟨hE, e6, R5⟩ := tick_step R4 (by show S1.now < _; omega) (run (n + 3)) m
    have i1 := R1.t4
    have i2 := R1.ta1 hj1
    have i3 := R1.h1 hj1
    have i4 := R1.t3
    have i5 := R1.h5 hj1
    have i6 := R2.h1 (j := j) hj1
    have i7 := idxS_nat (size := 1) (b := L1.TA) (o := 0) (c := S1.nh) hj1
    have i8 := idxS_told (tb := L1.tb j) (i := (S1.hands j).pos) (l := S1.told j) ((List.getElem?_eq_some_iff.1 hd1).1)
    have i9 := intB_inc (n := (S1.hands j).pos) (by rw [q4]; omega)
    simp only [Lay.tell, Sys.tell] at e4 e5 e6 i6
    rw [khb] at i3 i5 i6 e4 e5
    rw [kT] at i1 i4 e6
    refine ⟨hE, L1.tell j (L1.tb j), ?_, ?_, K1'.trans (Keep.tell _ _ _)⟩
    · simp only [pt] at e6
      simp only [f18j2, pt, bindR_ret, pureR_some, nonnil_q, padd_q, Nat.zero_add, e0, e1, ifR_true, noPan_ret]
      simp only [bindR_ret, pureR_some, nonnil_q, padd_q, noPan_ret, Bool.and_true, guardR_true, i1, i7, i2, i3, i8, i4, i5, e2, e3]
      simp only [bindR_ret, pureR_some, i6, i9, e4, e5, e6]
    · rw [if_pos rfl]
      rw [setH_setH, hands_setH] at R5
      have e : (endS S1 j).tick = Sys.tick ((S1.tell j ((S1.told j).set (S1.hands j).pos { d with fin := S1.now, is := (S1.hands j).is })).setH j { S1.hands j with pos := (S1.hands j).pos + 1, st := none }) := by
        unfold endS; dsimp only; rw [modify_set hd1]
      rw [e]
      exact R5

/-- What a step of hand j leans on. -/
structure Ready (S : Sys) (j : Nat) : Prop where
  lt : j < S.nh
  algo : 1 ≤ S.algo ∧ S.algo ≤ 4
  pos : (S.hands j).pos ≤ (S.hands j).prog.length
  small : (S.hands j).prog.length < 1000
  now : S.now < 1000000
  told : (S.told j).length = (S.hands j).pos + (if (S.hands j).st = none then 0 else 1)
  stands : ∀ kd k, (S.hands j).prog[(S.hands j).pos]? = some (kd, k) → Stands (beginS S j) j kd k

theorem prog_len (R : Rep h S L) {j : Nat} (hj : j < S.nh) : lenRS h (L.pv j) = some (.ret (.int .i64 ((S.hands j).prog.length : Nat)) h) := by
  rcases R.prog j hj with ⟨h1, b, o, c, h2, h3⟩ | ⟨b, o, c, r, h1, h2, h3⟩
  · rw [h2, h1, h3]; rfl
  · rw [h1]; rfl

theorem beginS_now (S : Sys) (j : Nat) : (beginS S j).now = S.now := by unfold beginS; split <;> rfl
theorem beginS_pos (S : Sys) (j : Nat) : ((beginS S j).hands j).pos = (S.hands j).pos := by
  unfold beginS; split
  · show ((S.setH j _).hands j).pos = _; rw [hands_setH]
  · rfl
theorem beginS_prog (S : Sys) (j : Nat) : ((beginS S j).hands j).prog = (S.hands j).prog := by
  unfold beginS; split
  · show ((S.setH j _).hands j).prog = _; rw [hands_setH]
  · rfl

theorem step_ok (R : Rep h S L) {j : Nat} (Y : Ready S j) (n : Nat) :
    ∃ h' L', run (n + 4) 18 [pt L.T, .int .i64 j] h = some (.ret (.bool (((S.hands j).prog[(S.hands j).pos]?).isSome)) h') ∧ Rep h' (S.step j) L' ∧ Keep L L' := by
  have hj := Y.lt
  obtain ⟨kc, i1⟩ := R.t2 (by omega)
  have i2 := R.ha1 hj
  have i3 := idxS_nat (size := 1) (b := L.HA) (o := 0) (c := kc) hj
  have i4 := R.h1 hj
  have i5 := R.h0 hj
  have i6 := prog_len R hj
  rw [run, callR_succ, eq18]
  match hd : (S.hands j).prog[(S.hands j).pos]? with
  | none =>
    have hp : (S.hands j).pos = (S.hands j).prog.length := by have := List.getElem?_eq_none_iff.1 hd; have := Y.pos; omega
    refine ⟨h, L, ?_, ?_, Keep.refl L⟩
    · simp only [f18, pt, bindR_ret, pureR_some, nonnil_q, padd_q, Nat.zero_add, i1]
      simp only [bindR_ret, pureR_some, nonnil_q, padd_q, noPan_ret, Bool.and_true, guardR_true, i3, i2]
      simp only [bindR_ret, pureR_some, nonnil_q, padd_q, noPan_ret, Bool.and_true, guardR_true, Nat.zero_add, i4, i5, i6, intB_eql, hp, beq_self_eq_true, ifR_true, clean, cond_true, Option.bind_some, tup, Option.isSome_none]
    · simp only [Sys.step, hd]; exact R
  | some (kd, k) =>
    have hlt := (List.getElem?_eq_some_iff.1 hd).1
    have hne : (((S.hands j).pos : Int) == ((S.hands j).prog.length : Int)) = false := by
      rw [← Bool.not_eq_true, beq_iff_eq]; omega
    have W := Y.stands kd k hd
    have hsmall := Y.small
    have hrest : ∃ h' L', f18j1 (run (n + 3)) (n + 3) (pt L.T) (.int .i64 j) (pt (L.hb j)) h = some (.ret (.bool true) h') ∧ Rep h' (S.step j) L' ∧ Keep L L' := by
      have hS : S.step j = (if (act (beginS S j) j kd k).2 then endS (act (beginS S j) j kd k).1 j else (act (beginS S j) j kd k).1).tick := by simp only [Sys.step, hd]
      rw [hS]
      by_cases hst : (S.hands j).st = none
      · have hl := Y.told; rw [if_pos hst] at hl
        obtain ⟨h1, L1, e1, R1, K1⟩ := begin_step R hj hst Y.algo (by omega) (n + 2) (n + 3)
        have hd1 : ((beginS S j).told j)[((beginS S j).hands j).pos]? = some (beginD S j) := by
          rw [beginS_pos]; unfold beginS; rw [if_pos hst]
          simp only [Sys.tell, setF_same]
          rw [List.getElem?_append_right (by omega), show (S.hands j).pos - (S.told j).length = 0 by omega]; rfl
        obtain ⟨h2, L2, e2, R2, K2⟩ := go_step R1 W hd1 (by rw [beginS_pos]; omega) (by rw [beginS_now]; exact Y.now) n (n + 3)
        rw [K1.T, K1.hb] at e2
        exact ⟨h2, L2, by rw [e1, e2], R2, K1.trans K2⟩
      · have hb : beginS S j = S := if_neg hst
        rw [hb] at W ⊢
        have hl := Y.told; rw [if_neg hst] at hl
        obtain ⟨d, hd1⟩ : ∃ d, (S.told j)[(S.hands j).pos]? = some d := ⟨_, List.getElem?_eq_getElem (by omega)⟩
        obtain ⟨h2, L2, e2, R2, K2⟩ := go_step R W hd1 (by omega) Y.now n (n + 3)
        refine ⟨h2, L2, ?_, R2, K2⟩
        rw [← e2]
        have h2' := R.h2 hj
        obtain ⟨s, hs⟩ := Option.ne_none_iff_exists'.1 hst
        have hf : funcE (stV (L.eb j) (S.hands j).st) .nilFunc = some false := by rw [hs]; cases s <;> rfl
        simp only [f18j1, pt, bindR_ret, pureR_some, nonnil_q, padd_q, Nat.zero_add, h2', hf, eqNeq_eql, ifR_false]
    obtain ⟨h1, L1, e1, R1, K1⟩ := hrest
    refine ⟨h1, L1, ?_, R1, K1⟩
    simp only [pt] at e1
    simp only [f18, pt, bindR_ret, pureR_some, nonnil_q, padd_q, Nat.zero_add, i1]
    simp only [bindR_ret, pureR_some, nonnil_q, padd_q, noPan_ret, Bool.and_true, guardR_true, i3, i2]
    simp only [bindR_ret, pureR_some, nonnil_q, padd_q, noPan_ret, Bool.and_true, guardR_true, Nat.zero_add, i4, i5, i6, intB_eql, hne, ifR_false]
    exact e1

end
end Go.Ha

namespace Go.Ha
open Go.AM

structure NodesOk (S : Sys) : Prop where
  first : 0 < S.nn
  head : (S.nodes 0).key = -1
  next : ∀ i, i < S.nn → ∀ k, (S.nodes i).next = some k → k < S.nn ∧ (S.nodes i).key < (S.nodes k).key
  last : ∀ i, i < S.nn → ((S.nodes i).next = none ↔ (S.nodes i).key = 10)
  le : ∀ i, i < S.nn → (S.nodes i).key ≤ 10
  mark : ∀ i, i < S.nn → (S.nodes i).mark = true → (S.nodes i).key ≤ 9

/-- Which algorithm has this place. -/
def AlgoOk (a : Int) : St → Prop
  | .l0 | .l1 | .l2 => a = 1
  | .z0 | .z1 | .z2 | .z3 | .z4 | .z5 => a = 2
  | _ => a ≠ 1 ∧ a ≠ 2

def St.begins : St → Bool
  | .l0 | .z0 | .m0 => true
  | _ => false

/-- What is known of the bead that is looked at. -/
def PlaceOk (s : St) (kd k kc : Int) : Prop :=
  match s with
  | .z2 | .z3 | .z4 => kd ≠ 3 ∧ k ≤ kc
  | .z5 | .m3 => kd = 2 ∧ kc = k
  | .m2 => (kd = 1 ∧ k < kc) ∨ (kd = 2 ∧ kc = k)
  | _ => True

structure DeedOk (d : Int × Int) : Prop where
  kind : d.1 = 1 ∨ d.1 = 2 ∨ d.1 = 3
  key : 0 ≤ d.2 ∧ d.2 ≤ 9

/-- Where a hand in the middle of a deed stands. -/
structure At (S : Sys) (x : Hd) (s : St) (kd k : Int) : Prop where
  algo : AlgoOk S.algo s
  on : s.begins = false → ∃ p c, x.p = some p ∧ x.c = some c ∧ p < S.nn ∧ c < S.nn ∧ (S.nodes p).key < k ∧ (S.nodes p).key < (S.nodes c).key ∧ PlaceOk s kd k (S.nodes c).key

structure HandOk (S : Sys) (j : Nat) : Prop where
  deeds : ∀ d ∈ (S.hands j).prog, DeedOk d
  pos : (S.hands j).pos ≤ (S.hands j).prog.length
  small : (S.hands j).prog.length ≤ 4
  told : (S.told j).length = (S.hands j).pos + (if (S.hands j).st = none then 0 else 1)
  at' : ∀ s, (S.hands j).st = some s → ∃ kd k, (S.hands j).prog[(S.hands j).pos]? = some (kd, k) ∧ At S (S.hands j) s kd k

structure Inv (S : Sys) : Prop where
  nodes : NodesOk S
  hands : ∀ j, j < S.nh → HandOk S j
  algo : 1 ≤ S.algo ∧ S.algo ≤ 4

/-- Beads there were are as they were, but for marks, locks and who is next. -/
structure Grow (S S' : Sys) : Prop where
  algo : S'.algo = S.algo
  nn : S.nn ≤ S'.nn
  key : ∀ i, i < S.nn → (S'.nodes i).key = (S.nodes i).key

theorem Grow.refl (S : Sys) : Grow S S := ⟨rfl, Nat.le_refl _, fun _ _ => rfl⟩
theorem Grow.trans {A B C : Sys} (a : Grow A B) (b : Grow B C) : Grow A C :=
  ⟨b.algo.trans a.algo, Nat.le_trans a.nn b.nn, fun i hi => (b.key i (Nat.lt_of_lt_of_le hi a.nn)).trans (a.key i hi)⟩
theorem Grow.setN {S : Sys} {i : Nat} {x : Nd} (h : x.key = (S.nodes i).key) : Grow S (S.setN i x) :=
  ⟨rfl, Nat.le_refl _, fun j _ => by simp only [Sys.setN, setF]; split <;> simp_all⟩
theorem Grow.setH (S : Sys) (j : Nat) (x : Hd) : Grow S (S.setH j x) := ⟨rfl, Nat.le_refl _, fun _ _ => rfl⟩
theorem Grow.add (S : Sys) (x : Nd) : Grow S (S.add x) :=
  ⟨rfl, Nat.le_succ _, fun j hj => by simp only [Sys.add]; rw [setF_ne _ _ (by omega)]⟩
theorem Grow.tell (S : Sys) (j : Nat) (l : List Dn) : Grow S (S.tell j l) := ⟨rfl, Nat.le_refl _, fun _ _ => rfl⟩

theorem At.grow {S S' : Sys} (g : Grow S S') {x : Hd} {s : St} {kd k : Int} (a : At S x s kd k) : At S' x s kd k where
  algo := by rw [g.algo]; exact a.algo
  on hs := by
    obtain ⟨p, c, h1, h2, h3, h4, h5, h6, h7⟩ := a.on hs
    refine ⟨p, c, h1, h2, Nat.lt_of_lt_of_le h3 g.nn, Nat.lt_of_lt_of_le h4 g.nn, ?_, ?_, ?_⟩
    · rw [g.key p h3]; exact h5
    · rw [g.key p h3, g.key c h4]; exact h6
    · rw [g.key c h4]; exact h7

section
variable {S : Sys}

theorem NodesOk.setH (N : NodesOk S) (j : Nat) (x : Hd) : NodesOk (S.setH j x) := ⟨N.first, N.head, N.next, N.last, N.le, N.mark⟩
theorem NodesOk.tell (N : NodesOk S) (j : Nat) (l : List Dn) : NodesOk (S.tell j l) := ⟨N.first, N.head, N.next, N.last, N.le, N.mark⟩
theorem NodesOk.tick (N : NodesOk S) : NodesOk S.tick := ⟨N.first, N.head, N.next, N.last, N.le, N.mark⟩

/-- A bead is written into. -/
theorem NodesOk.setN (N : NodesOk S) {i : Nat} (hi : i < S.nn) (x : Nd) (hk : x.key = (S.nodes i).key) (hn : x.next = none ↔ (S.nodes i).key = 10) (hm : x.mark = true → (S.nodes i).key ≤ 9)
    (hx : ∀ k, x.next = some k → k < S.nn ∧ (S.nodes i).key < (S.nodes k).key) : NodesOk (S.setN i x) := by
  have hkey : ∀ j, ((S.setN i x).nodes j).key = (S.nodes j).key := fun j => by simp only [Sys.setN, setF]; split <;> simp_all
  have hsame : (S.setN i x).nodes i = x := by simp [Sys.setN]
  have hne : ∀ j, j ≠ i → (S.setN i x).nodes j = S.nodes j := fun j hj => by simp only [Sys.setN]; rw [setF_ne _ _ hj]
  refine ⟨N.first, (hkey 0).trans N.head, ?_, ?_, ?_, ?_⟩
  · intro j hj k hk'
    rw [hkey, hkey]
    by_cases e : j = i
    · subst e; rw [hsame] at hk'; exact hx k hk'
    · rw [hne j e] at hk'; exact N.next j hj k hk'
  · intro j hj; rw [hkey]
    by_cases e : j = i
    · subst e; rw [hsame]; exact hn
    · rw [hne j e]; exact N.last j hj
  · intro j hj; rw [hkey]; exact N.le j hj
  · intro j hj hm'; rw [hkey]
    by_cases e : j = i
    · subst e; rw [hsame] at hm'; exact hm hm'
    · rw [hne j e] at hm'; exact N.mark j hj hm'

theorem NodesOk.lockN (N : NodesOk S) {i : Nat} (hi : i < S.nn) (b : Bool) : NodesOk (S.lockN i b) :=
  N.setN hi _ rfl (N.last i hi) (N.mark i hi) (N.next i hi)
theorem NodesOk.markN (N : NodesOk S) {i : Nat} (hi : i < S.nn) (b : Bool) (h : (S.nodes i).key ≤ 9) : NodesOk (S.markN i b) :=
  N.setN hi _ rfl (N.last i hi) (fun _ => h) (N.next i hi)
theorem NodesOk.nextN (N : NodesOk S) {i k : Nat} (hi : i < S.nn) (hk : k < S.nn) (h9 : (S.nodes i).key ≤ 9) (h : (S.nodes i).key < (S.nodes k).key) : NodesOk (S.nextN i k) :=
  N.setN hi _ rfl ⟨fun h => by simp at h, fun h => by omega⟩ (N.mark i hi) (by intro m hm; simp at hm; subst hm; exact ⟨hk, h⟩)
theorem NodesOk.add (N : NodesOk S) {k : Int} {c : Nat} (hc : c < S.nn) (h9 : k ≤ 9) (h : k < (S.nodes c).key) : NodesOk (S.add ⟨k, some c, false, false⟩) := by
  have hsame : (S.add ⟨k, some c, false, false⟩).nodes S.nn = ⟨k, some c, false, false⟩ := by simp [Sys.add]
  have hne : ∀ j, j ≠ S.nn → (S.add ⟨k, some c, false, false⟩).nodes j = S.nodes j := fun j hj => by simp only [Sys.add]; rw [setF_ne _ _ hj]
  have hnn : (S.add ⟨k, some c, false, false⟩).nn = S.nn + 1 := rfl
  refine ⟨Nat.succ_pos _, ?_, ?_, ?_, ?_, ?_⟩
  · rw [hne 0 (by have := N.first; omega)]; exact N.head
  · intro j hj m hm
    rw [hnn] at hj ⊢
    by_cases e : j = S.nn
    · subst e; rw [hsame] at hm ⊢; simp only [Option.some.injEq] at hm; subst hm
      rw [hne c (by omega)]; exact ⟨by omega, h⟩
    · rw [hne j e] at hm ⊢
      have := N.next j (by omega) m hm
      rw [hne m (by omega)]; exact ⟨by omega, this.2⟩
  · intro j hj
    rw [hnn] at hj
    by_cases e : j = S.nn
    · subst e; rw [hsame]; simp; omega
    · rw [hne j e]; exact N.last j (by omega)
  · intro j hj
    rw [hnn] at hj
    by_cases e : j = S.nn
    · subst e; rw [hsame]; simp; omega
    · rw [hne j e]; exact N.le j (by omega)
  · intro j hj
    rw [hnn] at hj
    by_cases e : j = S.nn
    · subst e; rw [hsame]; simp
    · rw [hne j e]; exact N.mark j (by omega)

/-- A new bead is put behind p. -/
theorem NodesOk.put (N : NodesOk S) {k : Int} {p c : Nat} (hp : p < S.nn) (hc : c < S.nn) (h9 : k ≤ 9) (h1 : (S.nodes p).key < k) (h : k < (S.nodes c).key) : NodesOk ((S.add ⟨k, some c, false, false⟩).nextN p S.nn) := by
  have e : (S.add ⟨k, some c, false, false⟩).nodes p = S.nodes p := by simp only [Sys.add]; rw [setF_ne _ _ (by omega)]
  refine (N.add hc h9 h).nextN (Nat.lt_succ_of_lt hp) (Nat.lt_succ_self _) (by rw [e]; omega) ?_
  rw [e]; simp [Sys.add]; exact h1

/-- c is left out. -/
theorem NodesOk.out (N : NodesOk S) {p c : Nat} (hp : p < S.nn) (hc : c < S.nn) (h : (S.nodes p).key < (S.nodes c).key) (h9 : (S.nodes c).key ≤ 9) : NodesOk (S.setN p { S.nodes p with next := (S.nodes c).next }) := by
  refine N.setN hp _ rfl ?_ (N.mark p hp) ?_
  · have : (S.nodes c).next ≠ none := fun h' => by have := (N.last c hc).1 h'; omega
    constructor
    · intro h; exact absurd h this
    · intro h; omega
  · intro k hk
    have := N.next c hc k hk
    exact ⟨this.1, by omega⟩

end
end Go.Ha

namespace Go.Ha
open Go.AM

structure Good (S S1 : Sys) (j : Nat) (kd k : Int) (b : Bool) : Prop where
  nodes : NodesOk S1
  grow : Grow S S1
  at' : b = false → ∃ s, (S1.hands j).st = some s ∧ At S1 (S1.hands j) s kd k

section
variable {S : Sys}

/-- Only the hand is written. -/
theorem Good.hand (N : NodesOk S) {j : Nat} {kd k : Int} {b : Bool} (x : Hd) (h : b = false → ∃ s, x.st = some s ∧ At S x s kd k) : Good S (S.setH j x) j kd k b :=
  ⟨N.setH j x, .setH S j x, fun hb => by obtain ⟨s, h1, h2⟩ := h hb; rw [hands_setH]; exact ⟨s, h1, h2.grow (.setH S j x)⟩⟩

/-- Beads are written, then the hand. -/
theorem Good.both {S1 : Sys} (N : NodesOk S1) (g : Grow S S1) {j : Nat} {kd k : Int} {b : Bool} (x : Hd) (h : b = false → ∃ s, x.st = some s ∧ At S x s kd k) : Good S (S1.setH j x) j kd k b :=
  ⟨N.setH j x, g.trans (.setH S1 j x), fun hb => by obtain ⟨s, h1, h2⟩ := h hb; rw [hands_setH]; exact ⟨s, h1, h2.grow (g.trans (.setH S1 j x))⟩⟩

theorem Good.over {S1 : Sys} (N : NodesOk S1) (g : Grow S S1) {j : Nat} {kd k : Int} : Good S S1 j kd k true := ⟨N, g, fun hb => by simp at hb⟩

theorem At.begins {x : Hd} {s : St} {kd k : Int} (ha : AlgoOk S.algo s) (hs : s.begins = true) : At S x s kd k := ⟨ha, fun h => by rw [hs] at h; simp at h⟩

theorem NodesOk.headNext (N : NodesOk S) : ∃ m, (S.nodes 0).next = some m ∧ m < S.nn ∧ -1 < (S.nodes m).key := by
  cases h : (S.nodes 0).next with
  | none => have := (N.last 0 N.first).1 h; rw [N.head] at this; omega
  | some m => have := N.next 0 N.first m h; rw [N.head] at this; exact ⟨m, rfl, this⟩

theorem NodesOk.some (N : NodesOk S) {c : Nat} (hc : c < S.nn) (h : (S.nodes c).key ≤ 9) : ∃ m, (S.nodes c).next = some m ∧ m < S.nn ∧ (S.nodes c).key < (S.nodes m).key := by
  cases h' : (S.nodes c).next with
  | none => have := (N.last c hc).1 h'; omega
  | some m => exact ⟨m, rfl, N.next c hc m h'⟩

/-- At the first bead behind the head. -/
theorem At.head (N : NodesOk S) {x : Hd} {s : St} {kd k : Int} (hk : 0 ≤ k) (ha : AlgoOk S.algo s) (hp : PlaceOk s kd k = fun _ => True) (st : Option St) (is : Bool) :
    At S { x with p := some 0, c := (S.nodes 0).next, st := st, is := is } s kd k := by
  obtain ⟨m, h1, h2, h3⟩ := N.headNext
  refine ⟨ha, fun _ => ⟨0, m, rfl, h1, N.first, h2, by rw [N.head]; omega, by rw [N.head]; exact h3, by rw [hp]; trivial⟩⟩

/-- One bead farther. -/
theorem At.farther (N : NodesOk S) {x : Hd} {s : St} {kd k : Int} {c : Nat} (hc : c < S.nn) (h : (S.nodes c).key < k) (h9 : k ≤ 9) (ha : AlgoOk S.algo s) (hp : PlaceOk s kd k = fun _ => True) (st : Option St) (is : Bool) :
    At S { x with p := some c, c := (S.nodes c).next, st := st, is := is } s kd k := by
  obtain ⟨m, h1, h2, h3⟩ := N.some hc (by omega)
  exact ⟨ha, fun _ => ⟨c, m, rfl, h1, hc, h2, h, h3, by rw [hp]; trivial⟩⟩

theorem Grow.lockN (S : Sys) (i : Nat) (b : Bool) : Grow S (S.lockN i b) := .setN rfl
theorem Grow.markN (S : Sys) (i : Nat) (b : Bool) : Grow S (S.markN i b) := .setN rfl
theorem Grow.nextN (S : Sys) (i k : Nat) : Grow S (S.nextN i k) := .setN rfl
theorem Grow.out (S : Sys) (i : Nat) (k : Option Nat) : Grow S (S.setN i { S.nodes i with next := k }) := .setN rfl

theorem Good.free {S2 : Sys} (N : NodesOk S2) (g : Grow S S2) {j p c : Nat} {kd k : Int} (hp : p < S2.nn) (hc : c < S2.nn) : Good S ((S2.lockN p false).lockN c false) j kd k true :=
  Good.over ((N.lockN hp false).lockN (i := c) hc false) ((g.trans (.lockN _ _ _)).trans (.lockN _ _ _))

theorem Grow.put (S : Sys) {k : Int} {p c : Nat} (hp : p < S.nn) : Grow S ((S.add ⟨k, some c, false, false⟩).nextN p S.nn) := (Grow.add S _).trans (.setN rfl)

theorem act_good (N : NodesOk S) {j : Nat} {kd k : Int} {s : St} (hs : (S.hands j).st = some s) (hd : DeedOk (kd, k)) (A : At S (S.hands j) s kd k) : Good S (act S j kd k).1 j kd k (act S j kd k).2 := by
  have hk0 : 0 ≤ k := hd.key.1
  have hk9 : k ≤ 9 := hd.key.2
  have same : ∀ (S1 : Sys), NodesOk S1 → Grow S S1 → S1.hands = S.hands → Good S S1 j kd k false := fun S1 N1 g e => ⟨N1, g, fun _ => by rw [e]; exact ⟨s, hs, A.grow g⟩⟩
  have gl : ∀ i b, Grow S (S.lockN i b) := fun i b => .setN rfl
  have gm : ∀ i b, Grow S (S.markN i b) := fun i b => .setN rfl
  have gn : ∀ i k, Grow S (S.setN i { S.nodes i with next := k }) := fun i b => .setN rfl
  cases s with
  | l0 =>
    simp only [act, hs]
    split
    · exact same S N (.refl S) rfl
    · refine Good.both (N.lockN N.first true) (gl _ _) _ ?_
      exact fun _ => ⟨.l1, rfl, At.head N hk0 (s := .l1) A.algo rfl _ _⟩
  | l1 =>
    obtain ⟨p, c, h1, h2, h3, h4, h5, h6, h7⟩ := A.on rfl
    simp only [act, hs, h1, h2, Option.getD_some]
    split
    · exact same S N (.refl S) rfl
    · refine Good.both (N.lockN h4 true) (gl _ _) _ ?_
      exact fun _ => ⟨.l2, rfl, A.algo, fun _ => ⟨p, c, rfl, rfl, h3, h4, h5, h6, trivial⟩⟩
  | l2 =>
    obtain ⟨p, c, h1, h2, h3, h4, h5, h6, h7⟩ := A.on rfl
    simp only [act, hs, h1, h2, Option.getD_some]
    split
    · rename_i hlt
      refine Good.both (N.lockN h3 false) (gl _ _) _ ?_
      exact fun _ => ⟨.l1, rfl, At.farther N h4 hlt hk9 (s := .l1) A.algo rfl _ _⟩
    · rename_i hge
      dsimp only
      split
      · rename_i hc
        have hlt : k < (S.nodes c).key := by
          have := hc.2; rw [hc.1] at this
          have e : ¬ (S.nodes c).key = k := by simpa using this
          omega
        exact Good.free ((N.setH _ _).put h3 h4 hk9 h5 hlt) ((Grow.setH S j _).trans (Grow.put _ h3)) (Nat.lt_succ_of_lt h3) (Nat.lt_succ_of_lt h4)
      · split
        · rename_i hc
          have he : (S.nodes c).key = k := by
            have := hc.2; rw [hc.1] at this
            simpa using this
          exact Good.free (((N.setH _ _).out h3 h4 h6 (by show (S.nodes c).key ≤ 9; omega)).markN h4 true (by show (setF S.nodes _ _ _).key ≤ 9; rw [setF_ne _ _ (by rintro rfl; omega)]; omega)) ((Grow.setH S j _).trans ((Grow.out _ _ _).trans (.markN _ _ _))) h3 h4
        · exact Good.free (N.setH _ _) (Grow.setH S j _) h3 h4
  | z0 =>
    simp only [act, hs]
    refine Good.hand N _ ?_
    exact fun _ => ⟨.z1, rfl, At.head N hk0 (s := .z1) A.algo rfl _ _⟩
  | z1 =>
    obtain ⟨p, c, h1, h2, h3, h4, h5, h6, h7⟩ := A.on rfl
    simp only [act, hs, h1, h2, Option.getD_some]
    split
    · rename_i hlt
      refine Good.hand N _ ?_
      exact fun _ => ⟨.z1, rfl, At.farther N h4 hlt hk9 (s := .z1) A.algo rfl _ _⟩
    · rename_i hge
      split
      · exact Good.hand N _ (fun h => by simp at h)
      · rename_i h3k
        simp only [first]
        split
        · refine Good.hand N _ ?_
          exact fun _ => ⟨.z2, rfl, A.algo, fun _ => ⟨p, c, h1, h2, h3, h4, h5, h6, h3k, by omega⟩⟩
        · refine Good.both (N.lockN h3 true) (gl _ _) _ ?_
          exact fun _ => ⟨.z3, rfl, A.algo, fun _ => ⟨p, c, h1, h2, h3, h4, h5, h6, h3k, by omega⟩⟩
  | z2 =>
    obtain ⟨p, c, h1, h2, h3, h4, h5, h6, h7⟩ := A.on rfl
    simp only [act, hs, h1, h2, Option.getD_some, first]
    split
    · refine Good.hand N _ ?_
      exact fun _ => ⟨.z2, rfl, A.algo, fun _ => ⟨p, c, rfl, rfl, h3, h4, h5, h6, h7⟩⟩
    · refine Good.both (N.lockN h3 true) (gl _ _) _ ?_
      exact fun _ => ⟨.z3, rfl, A.algo, fun _ => ⟨p, c, rfl, rfl, h3, h4, h5, h6, h7⟩⟩
  | z3 =>
    obtain ⟨p, c, h1, h2, h3, h4, h5, h6, h7⟩ := A.on rfl
    simp only [act, hs, h1, h2, Option.getD_some]
    split
    · exact same S N (.refl S) rfl
    · refine Good.both (N.lockN h4 true) (gl _ _) _ ?_
      exact fun _ => ⟨.z4, rfl, A.algo, fun _ => ⟨p, c, rfl, rfl, h3, h4, h5, h6, h7⟩⟩
  | z4 =>
    obtain ⟨p, c, h1, h2, h3, h4, h5, h6, h7⟩ := A.on rfl
    obtain ⟨h8, h9⟩ : kd ≠ 3 ∧ k ≤ (S.nodes c).key := h7
    simp only [act, hs, h1, h2, Option.getD_some]
    split
    · refine Good.both ((N.lockN h3 false).lockN (i := c) h4 false) ((gl _ _).trans (.lockN _ _ _)) _ ?_
      exact fun _ => ⟨.z0, rfl, At.begins (s := .z0) A.algo rfl⟩
    · split
      · dsimp only
        split
        · exact Good.free (N.setH _ _) (Grow.setH S j _) h3 h4
        · exact Good.free ((N.setH _ _).put h3 h4 hk9 h5 (by show k < (S.nodes c).key; omega)) ((Grow.setH S j _).trans (Grow.put _ h3)) (Nat.lt_succ_of_lt h3) (Nat.lt_succ_of_lt h4)
      · split
        · refine Good.both (N.markN h4 true (by omega)) (gm _ _) _ ?_
          have hk : kd = 2 := by have := hd.kind; simp only at this; omega
          exact fun _ => ⟨.z5, rfl, A.algo, fun _ => ⟨p, c, rfl, rfl, h3, h4, h5, h6, hk, by assumption⟩⟩
        · exact Good.free (N.setH _ _) (Grow.setH S j _) h3 h4
  | z5 =>
    obtain ⟨p, c, h1, h2, h3, h4, h5, h6, h7⟩ := A.on rfl
    obtain ⟨h8, h9⟩ : kd = 2 ∧ (S.nodes c).key = k := h7
    simp only [act, hs, h1, h2, Option.getD_some]
    exact Good.free (N.out h3 h4 h6 (by omega)) (gn _ _) h3 h4
  | m0 =>
    simp only [act, hs]
    refine Good.hand N _ ?_
    exact fun _ => ⟨.m1, rfl, At.head N hk0 (s := .m1) A.algo rfl _ _⟩
  | m1 =>
    obtain ⟨p, c, h1, h2, h3, h4, h5, h6, h7⟩ := A.on rfl
    simp only [act, hs, h1, h2, Option.getD_some]
    split
    · rename_i hm
      have h9 := N.mark c h4 hm.1
      split
      · obtain ⟨m, e1, e2, e3⟩ := N.some h4 h9
        refine Good.both (N.out h3 h4 h6 h9) (gn _ _) _ ?_
        exact fun _ => ⟨.m1, rfl, A.algo, fun _ => ⟨p, m, rfl, e1, h3, e2, h5, by omega, trivial⟩⟩
      · refine Good.hand N _ ?_
        exact fun _ => ⟨.m0, rfl, At.begins (s := .m0) A.algo rfl⟩
    · split
      · rename_i hlt
        refine Good.hand N _ ?_
        exact fun _ => ⟨.m1, rfl, At.farther N h4 hlt hk9 (s := .m1) A.algo rfl _ _⟩
      · split
        · exact Good.hand N _ (fun h => by simp at h)
        · split
          · exact Good.hand N _ (fun h => by simp at h)
          · rename_i hge h3k hne
            refine Good.hand N _ ?_
            refine fun _ => ⟨.m2, rfl, A.algo, fun _ => ⟨p, c, rfl, rfl, h3, h4, h5, h6, ?_⟩⟩
            have hk := hd.kind
            simp only at hk
            rcases hk with hk | hk | hk
            · left
              refine ⟨hk, ?_⟩
              have : ¬ (S.nodes c).key = k := by simpa [hk] using hne
              omega
            · right
              refine ⟨hk, ?_⟩
              simpa [hk] using hne
            · exact absurd hk h3k
  | m2 =>
    obtain ⟨p, c, h1, h2, h3, h4, h5, h6, h7⟩ := A.on rfl
    have h8 : (kd = 1 ∧ k < (S.nodes c).key) ∨ (kd = 2 ∧ (S.nodes c).key = k) := h7
    simp only [act, hs, h1, h2, Option.getD_some]
    split
    · exact Good.both (N.put h3 h4 hk9 h5 (by omega)) (Grow.put S h3) _ (fun h => by simp at h)
    · split
      · exact Good.both (N.out h3 h4 h6 (by omega)) (gn _ _) _ (fun h => by simp at h)
      · split
        · refine Good.both (N.markN h4 true (by omega)) (gm _ _) _ ?_
          exact fun _ => ⟨.m3, rfl, A.algo, fun _ => ⟨p, c, rfl, rfl, h3, h4, h5, h6, by omega, by omega⟩⟩
        · refine Good.hand N _ ?_
          exact fun _ => ⟨.m0, rfl, At.begins (s := .m0) A.algo rfl⟩
  | m3 =>
    obtain ⟨p, c, h1, h2, h3, h4, h5, h6, h7⟩ := A.on rfl
    obtain ⟨h8, h9⟩ : kd = 2 ∧ (S.nodes c).key = k := h7
    simp only [act, hs, h1, h2, Option.getD_some]
    split
    · exact Good.over (N.out h3 h4 h6 (by omega)) (gn _ _)
    · exact Good.over N (.refl S)

theorem start_begins (a : Int) : (St.start a).begins = true := by
  unfold St.start
  split
  · rfl
  · split <;> rfl
theorem start_algo (a : Int) : AlgoOk a (St.start a) := by
  unfold St.start; split
  · assumption
  · split
    · assumption
    · exact ⟨by assumption, by assumption⟩

theorem HandOk.grow {S S' : Sys} {j : Nat} (H : HandOk S j) (g : Grow S S') (hh : S'.hands j = S.hands j) (ht : S'.told j = S.told j) : HandOk S' j where
  deeds := by rw [hh]; exact H.deeds
  pos := by rw [hh]; exact H.pos
  small := by rw [hh]; exact H.small
  told := by rw [hh, ht]; exact H.told
  at' := fun s hs => by rw [hh] at hs ⊢; obtain ⟨kd, k, h1, h2⟩ := H.at' s hs; exact ⟨kd, k, h1, h2.grow g⟩

/-- A deed begins. -/
theorem Inv.begin (I : Inv S) {j : Nat} (hj : j < S.nh) {d : Int × Int} (hd : (S.hands j).prog[(S.hands j).pos]? = some d) : Inv (beginS S j) := by
  unfold beginS
  split
  · rename_i hst
    have g := (Grow.setH S j { S.hands j with st := some (St.start S.algo), is := false }).trans (.tell _ j (S.told j ++ [beginD S j]))
    refine ⟨(I.nodes.setH j _).tell j _, fun i hi => ?_, I.algo⟩
    have H := I.hands i hi
    by_cases e : i = j
    · subst e
      have hh : ∀ x l, (((S.setH i x).tell i l).hands i) = x := fun x l => hands_setH S i x
      have ht : ∀ x l, (((S.setH i x).tell i l).told i) = l := fun x l => by simp [Sys.tell]
      refine ⟨?_, ?_, ?_, ?_, ?_⟩
      · rw [hh]; exact H.deeds
      · rw [hh]; exact H.pos
      · rw [hh]; exact H.small
      · rw [hh, ht]; have := H.told; rw [if_pos hst] at this; simp [this]
      · intro s hs
        rw [hh] at hs ⊢
        simp only [Option.some.injEq] at hs
        subst hs
        exact ⟨d.1, d.2, hd, At.begins (start_algo S.algo) (start_begins S.algo)⟩
    · exact H.grow g (setF_ne _ _ e) (setF_ne _ _ e)
  · exact I

theorem beginS_st (S : Sys) (j : Nat) : ((beginS S j).hands j).st ≠ none := by
  unfold beginS; split
  · show ((S.setH j _).hands j).st ≠ none; rw [hands_setH]; simp
  · assumption

theorem act_st (S : Sys) (j : Nat) (kd k : Int) (h : (S.hands j).st ≠ none) : ((act S j kd k).1.hands j).st ≠ none := by
  unfold act first; dsimp only
  repeat' split
  all_goals simp only [Sys.lockN, Sys.markN, Sys.nextN, Sys.setH, Sys.setN, Sys.add, setF_same]
  all_goals first | assumption | simp | simp_all

theorem Inv.tick (I : Inv S) : Inv S.tick := ⟨I.nodes.tick, fun j hj => (I.hands j hj).grow ⟨rfl, Nat.le_refl _, fun _ _ => rfl⟩ rfl rfl, I.algo⟩

/-- A step keeps what always holds. -/
theorem Inv.step (I : Inv S) {j : Nat} (hj : j < S.nh) : Inv (S.step j) := by
  unfold Sys.step
  split
  · exact I
  · rename_i kd k hd
    have I1 := I.begin hj hd
    have hj1 : j < (beginS S j).nh := by unfold beginS; split <;> exact hj
    obtain ⟨B, hB⟩ : ∃ B, B = beginS S j := ⟨_, rfl⟩
    have hdB : (B.hands j).prog[(B.hands j).pos]? = some (kd, k) := by rw [hB, beginS_prog, beginS_pos]; exact hd
    have hsB : (B.hands j).st ≠ none := by rw [hB]; exact beginS_st S j
    rw [← hB] at I1 hj1 ⊢
    obtain ⟨s, hs⟩ := Option.ne_none_iff_exists'.1 hsB
    obtain ⟨kd', k', hd', A⟩ := (I1.hands j hj1).at' s hs
    rw [hdB] at hd'
    simp only [Option.some.injEq, Prod.mk.injEq] at hd'
    obtain ⟨rfl, rfl⟩ := hd'
    have hok : DeedOk (kd, k) := (I1.hands j hj1).deeds _ (List.mem_of_getElem? hdB)
    have G := act_good I1.nodes hs hok A
    have hnh := act_nh B j kd k
    have H1 : ∀ i, i < B.nh → i ≠ j → HandOk (act B j kd k).1 i := fun i hi e => (I1.hands i hi).grow G.grow (act_others B j i kd k e) (by rw [act_told])
    have hst1 := act_st B j kd k hsB
    have hpp := act_pos B j j kd k
    have HB := I1.hands j hj1
    have htold : ((act B j kd k).1.told j).length = (B.hands j).pos + 1 := by rw [act_told]; have := HB.told; rw [if_neg hsB] at this; exact this
    refine Inv.tick ?_
    cases hb : (act B j kd k).2 with
    | false =>
      simp only [Bool.false_eq_true, if_false]
      refine ⟨G.nodes, fun i hi => ?_, by rw [G.grow.algo]; exact I1.algo⟩
      rw [hnh] at hi
      by_cases e : i = j
      · subst e
        obtain ⟨s', h1, h2⟩ := G.at' hb
        refine ⟨by rw [hpp.2]; exact HB.deeds, by rw [hpp.1, hpp.2]; exact HB.pos, by rw [hpp.2]; exact HB.small, ?_, ?_⟩
        · rw [htold, hpp.1, if_neg hst1]
        · intro s'' hs''
          rw [h1] at hs''; simp only [Option.some.injEq] at hs''; subst hs''
          exact ⟨kd, k, by rw [hpp.1, hpp.2]; exact hdB, h2⟩
      · exact H1 i hi e
    | true =>
      simp only [if_true]
      obtain ⟨C, hC⟩ : ∃ C, C = (act B j kd k).1 := ⟨_, rfl⟩
      rw [← hC] at G hnh H1 hpp htold ⊢
      refine ⟨(G.nodes.tell j _).setH j _, fun i hi => ?_, by show 1 ≤ C.algo ∧ C.algo ≤ 4; rw [G.grow.algo]; exact I1.algo⟩
      have hi' : i < B.nh := by rw [← hnh]; exact hi
      by_cases e : i = j
      · subst e
        have hh : (endS C i).hands i = { C.hands i with pos := (C.hands i).pos + 1, st := none } := hands_setH _ _ _
        have ht : (endS C i).told i = (C.told i).modify (C.hands i).pos fun d => { d with fin := C.now, is := (C.hands i).is } := by simp [endS, Sys.setH, Sys.tell]
        have hlt : (B.hands i).pos < (B.hands i).prog.length := (List.getElem?_eq_some_iff.1 hdB).1
        refine ⟨by rw [hh]; show ∀ d ∈ (C.hands i).prog, DeedOk d; rw [hpp.2]; exact HB.deeds, ?_, ?_, ?_, ?_⟩
        · rw [hh]; show (C.hands i).pos + 1 ≤ (C.hands i).prog.length; rw [hpp.1, hpp.2]; exact hlt
        · rw [hh]; show (C.hands i).prog.length ≤ 4; rw [hpp.2]; exact HB.small
        · rw [hh, ht, List.length_modify, htold]; show _ = (C.hands i).pos + 1 + _; rw [hpp.1]; simp
        · intro s hs; rw [hh] at hs; simp at hs
      · exact (H1 i hi' e).grow ((Grow.tell C j _).trans (.setH _ j _)) (setF_ne _ _ e) (setF_ne _ _ e)

/-- Where a hand may step. -/
theorem Inv.ready (I : Inv S) {j : Nat} (hj : j < S.nh) (hn : S.now < 1000000) : Ready S j := by
  have H := I.hands j hj
  refine ⟨hj, I.algo, H.pos, by have := H.small; omega, hn, H.told, fun kd k hd => ?_⟩
  have I1 := I.begin hj hd
  have hj1 : j < (beginS S j).nh := by unfold beginS; split <;> exact hj
  obtain ⟨B, hB⟩ : ∃ B, B = beginS S j := ⟨_, rfl⟩
  have hdB : (B.hands j).prog[(B.hands j).pos]? = some (kd, k) := by rw [hB, beginS_prog, beginS_pos]; exact hd
  have hsB : (B.hands j).st ≠ none := by rw [hB]; exact beginS_st S j
  rw [← hB] at I1 hj1 ⊢
  obtain ⟨s, hs⟩ := Option.ne_none_iff_exists'.1 hsB
  obtain ⟨kd', k', hd', A⟩ := (I1.hands j hj1).at' s hs
  rw [hdB] at hd'
  simp only [Option.some.injEq, Prod.mk.injEq] at hd'
  obtain ⟨rfl, rfl⟩ := hd'
  have hok : DeedOk (kd, k) := (I1.hands j hj1).deeds _ (List.mem_of_getElem? hdB)
  have N := I1.nodes
  obtain ⟨m, hm, _⟩ := N.headNext
  refine ⟨hj1, hdB, hok.kind, hok.key.2, hsB, ?_, ⟨m, hm⟩, ?_, ?_, ?_, ?_, ?_⟩
  · intro s' hs'; rw [hs] at hs'; simp only [Option.some.injEq] at hs'; subst hs'
    have := A.algo; cases s <;> exact this
  · intro s' hs' h1 h2 h3; rw [hs] at hs'; simp only [Option.some.injEq] at hs'; subst hs'
    obtain ⟨p, c, e1, e2, e3, e4, e5, e6, e7⟩ := A.on (by cases s <;> simp_all [St.begins])
    obtain ⟨m, hm, _⟩ := N.some e3 (by have := hok.key.2; simp only at this; omega)
    exact ⟨p, c, m, e1, e2, hm⟩
  · intro s' hs' h1 h2 h3 c hc h; rw [hs] at hs'; simp only [Option.some.injEq] at hs'; subst hs'
    obtain ⟨p, c', e1, e2, e3, e4, e5, e6, e7⟩ := A.on (by cases s <;> simp_all [St.begins])
    rw [e2] at hc; simp only [Option.some.injEq] at hc; subst hc
    obtain ⟨m, hm, _⟩ := N.some e4 (h.elim id (N.mark _ e4))
    exact ⟨m, hm⟩
  · intro s' hs' h c hc; rw [hs] at hs'; simp only [Option.some.injEq] at hs'; subst hs'
    have hb : s.begins = false := by rcases h with rfl | rfl | ⟨rfl, _⟩ <;> rfl
    obtain ⟨p, c', e1, e2, e3, e4, e5, e6, e7⟩ := A.on hb
    rw [e2] at hc; simp only [Option.some.injEq] at hc; subst hc
    have h9 := hok.key.2
    simp only at h9
    rcases h with rfl | rfl | ⟨rfl, rfl⟩
    · have e7' : kd = 2 ∧ (B.nodes c').key = k := e7; omega
    · have e7' : kd = 2 ∧ (B.nodes c').key = k := e7; omega
    · have e7' : ((2 : Int) = 1 ∧ k < (B.nodes c').key) ∨ ((2 : Int) = 2 ∧ (B.nodes c').key = k) := e7; omega
  · intro hs'; rw [hs] at hs'; simp only [Option.some.injEq] at hs'; subst hs'
    obtain ⟨p, c', e1, e2, e3, e4, e5, e6, e7⟩ := A.on rfl
    have e7' : (kd = 1 ∧ k < (B.nodes c').key) ∨ (kd = 2 ∧ (B.nodes c').key = k) := e7
    omega
  · intro hs'; rw [hs] at hs'; simp only [Option.some.injEq] at hs'; subst hs'
    obtain ⟨p, c', e1, e2, e3, e4, e5, e6, e7⟩ := A.on rfl
    have e7' : kd ≠ 3 ∧ k ≤ (B.nodes c').key := e7
    exact e7'.1
end
end Go.Ha

namespace Go.Ha

def inside (x lo hi : Int) : Bool := decide (lo ≤ x) && decide (x ≤ hi)

def runOrder (S : Sys) (order : List Int) : Sys := order.foldl (fun S who => if inside who 0 ((S.nh : Int) - 1) then S.step who.toNat else S) S

def hasDeed (S : Sys) (j : Nat) : Bool := ((S.hands j).prog[(S.hands j).pos]?).isSome

/-- The rest of a round, from hand j on; had one of them a deed? -/
def sweepFrom : Nat → Sys → Bool → Nat → Sys × Bool
  | 0, S, b, _ => (S, b)
  | n + 1, S, b, j => if S.now < 4000 ∧ hasDeed S j = true then sweepFrom n (S.step j) true (j + 1) else sweepFrom n S b (j + 1)

theorem sweep_succ (n : Nat) (S : Sys) (b : Bool) (j : Nat) : sweepFrom (n + 1) S b j = if S.now < 4000 ∧ hasDeed S j = true then sweepFrom n (S.step j) true (j + 1) else sweepFrom n S b (j + 1) := rfl

def rounds : Nat → Sys → Sys
  | 0, S => S
  | n + 1, S => if (sweepFrom S.nh S false 0).2 then rounds n (sweepFrom S.nh S false 0).1 else (sweepFrom S.nh S false 0).1

section
variable {S : Sys}

theorem beginS_nh (S : Sys) (j : Nat) : (beginS S j).nh = S.nh := by unfold beginS; split <;> rfl
theorem step_nh (S : Sys) (j : Nat) : (S.step j).nh = S.nh := by
  unfold Sys.step; split
  · rfl
  · dsimp only
    split
    · show (act _ j _ _).1.nh = _; rw [act_nh, beginS_nh]
    · show (act _ j _ _).1.nh = _; rw [act_nh, beginS_nh]
theorem step_now (S : Sys) (j : Nat) : (S.step j).now = S.now + (if hasDeed S j = true then 1 else 0) := by
  unfold Sys.step hasDeed; split
  · rename_i h; simp [h]
  · rename_i h; rw [h]; dsimp only
    split
    · show (act _ j _ _).1.now + 1 = _; rw [act_now, beginS_now]; rfl
    · show (act _ j _ _).1.now + 1 = _; rw [act_now, beginS_now]; rfl

theorem step_no {j : Nat} (h : hasDeed S j = false) : S.step j = S := by
  unfold Sys.step; unfold hasDeed at h
  split
  · rfl
  · rename_i e; rw [e] at h; simp at h

theorem sweep_now : ∀ (n : Nat) (S : Sys) (b : Bool) (j : Nat), S.now ≤ (sweepFrom n S b j).1.now ∧ (S.now ≤ 4000 → (sweepFrom n S b j).1.now ≤ 4000) ∧ ((sweepFrom n S b j).2 = true → b = true ∨ S.now < (sweepFrom n S b j).1.now) := by
  intro n
  induction n with
  | zero => intro S b j; exact ⟨Nat.le_refl _, id, fun h => .inl h⟩
  | succ n ih =>
    intro S b j
    unfold sweepFrom
    split
    · rename_i h
      have := ih (S.step j) true (j + 1)
      rw [step_now, if_pos h.2] at this
      exact ⟨by omega, fun _ => this.2.1 (by omega), fun _ => .inr (by omega)⟩
    · exact ih S b (j + 1)

theorem sweep_nh : ∀ (n : Nat) (S : Sys) (b : Bool) (j : Nat), (sweepFrom n S b j).1.nh = S.nh := by
  intro n
  induction n with
  | zero => intro S b j; rfl
  | succ n ih =>
    intro S b j
    unfold sweepFrom
    split
    · rw [ih, step_nh]
    · exact ih S b (j + 1)
end

end Go.Ha

namespace Go.Ha
open Go.AM Go.Proofs.YtejokpfeepbfeaaAm

/-- v is a row of n elements, w cells each, behind base. -/
def GRow (base : Nat) (h : Heap) (w : Nat) (v : Value) (cs : List Value) (n : Nat) : Prop :=
  cs.length = n * w ∧ ((n = 0 ∧ v = .slice none 0 0) ∨ (1 ≤ n ∧ ∃ b, base ≤ b ∧ v = .slice (some ⟨b, 0, none⟩) n n ∧ h.bs[b]? = some (.cells cs w false)))

/-- Blocks ahead of base are as they were. -/
def Below (base : Nat) (h h' : Heap) : Prop := ∀ (b : Nat) (y : Blk), b < base → h.bs[b]? = some y → h'.bs[b]? = some y

theorem Below.refl (base : Nat) (h : Heap) : Below base h h := fun _ _ _ e => e
theorem Below.trans {base : Nat} {h1 h2 h3 : Heap} (a : Below base h1 h2) (b : Below base h2 h3) : Below base h1 h3 := fun i y hi e => b i y hi (a i y hi e)
theorem Below.push {base : Nat} (h : Heap) (x : Blk) : Below base h (h.push x) := fun _ _ _ e => push_old e

theorem GRow.below {base w n : Nat} {h h' : Heap} {v : Value} {cs : List Value} (G : GRow base h w v cs n) (hk : ∀ (b : Nat) (y : Blk), h.bs[b]? = some y → h'.bs[b]? = some y) : GRow base h' w v cs n :=
  ⟨G.1, G.2.imp id fun ⟨h1, b, h2, h3, h4⟩ => ⟨h1, b, h2, h3, hk _ _ h4⟩⟩

theorem app_row {base w n m bytes : Nat} {h : Heap} {v x : Value} {cs new : List Value} (G : GRow base h w v cs n) (hb : base ≤ h.len) (hl : lenOf x = some m) (he : elemsOf h w m x = some new) (hc : cellsOk new = true)
    (hn : new.length = m * w) (hw : 1 ≤ w) (h1 : n + m ≤ 100000) (h2 : bytes ≤ 1000) :
    ∃ v' h', appR w bytes h v x = some (.ret v' h') ∧ GRow base h' w v' (cs ++ new) (n + m) ∧ Below base h h' ∧ h.len ≤ h'.len := by
  have b1 : Nat.ble ((n + m) * bytes) 70368744177664 = true := by
    rw [Nat.ble_eq]; have := Nat.mul_le_mul h1 h2; omega
  have b2 : Nat.ble (n + m) 70368744177664 = true := by rw [Nat.ble_eq]; omega
  have b3 : Nat.ble 1 w = true := by rw [Nat.ble_eq]; exact hw
  have b4 : Nat.beq new.length (m * w) = true := by rw [Nat.beq_eq]; exact hn
  obtain ⟨g1, g2⟩ := G
  by_cases hm : m = 0
  · subst hm
    have hnew : new = [] := by apply List.eq_nil_of_length_eq_zero; omega
    subst hnew
    refine ⟨v, h, ?_, ⟨by simpa using g1, by simpa using g2⟩, .refl _ _, Nat.le_refl _⟩
    rcases g2 with ⟨rfl, rfl⟩ | ⟨g3, b, g4, rfl, g5⟩
    · have e : Nat.ble 0 0 = true := rfl
      simp [appR, hl, he, e]
    · have e : Nat.ble n n = true := by simp
      simp [appR, hl, he, e]
  · have hlt : Nat.ble (n + m) n = false := by rw [← Bool.not_eq_true, Nat.ble_eq]; omega
    rcases g2 with ⟨rfl, rfl⟩ | ⟨g3, b, g4, rfl, g5⟩
    · refine ⟨.slice (some ⟨h.len, 0, none⟩) (0 + m) (0 + m), h.push (.cells new w false), ?_, ⟨by simp at g1; simp [g1, hn], .inr ⟨by omega, h.len, hb, rfl, ?_⟩⟩, .push _ _, by simp [Heap.len, Heap.push]⟩
      · have k6 : elemsOf h w 0 (.slice none 0 0) = some [] := rfl
        simp only [appR, hl, he, Option.bind_some, hlt, cond_false, b1, b2, b3, b4, hc, Bool.and_true, cond_true, k6, roomOf, Heap.kill, List.nil_append]
      · have : cs = [] := by apply List.eq_nil_of_length_eq_zero; omega
        subst this; exact push_new
    · have hlen := lt_len g5
      refine ⟨.slice (some ⟨h.len, 0, none⟩) (n + m) (n + m), (h.upd b .dead).push (.cells (cs ++ new) w false), ?_, ⟨by simp [g1, hn, Nat.add_mul], .inr ⟨by omega, h.len, hb, rfl, ?_⟩⟩, ?_, by simp [Heap.len, Heap.push, Heap.upd]⟩
      · have k6 : elemsOf h w n (.slice (some ⟨b, 0, none⟩) n n) = some cs := elems_row g5 g1
        have k7 : Nat.ble (0 + n * w) cs.length = true := by rw [Nat.ble_eq, g1]; omega
        have k8 : roomOf h w n (some ⟨b, 0, none⟩) = some false := by
          simp only [roomOf, g5, k7, Bool.and_true]
          simp
        simp only [appR, hl, he, Option.bind_some, hlt, cond_false, b1, b2, b3, b4, hc, Bool.and_true, cond_true, k6, k8, Heap.kill, g5]
      · have : (h.upd b .dead).len = h.len := by simp [Heap.len, Heap.upd]
        rw [← this]; exact push_new
      · intro i y hi e
        exact push_old (by rw [upd_ne (by omega)]; exact e)

/-- A loop: P holds at each turn, with a measure that falls; Q is what comes of the loop. -/
theorem iterK_rule {σ : Type} (F : (σ → Heap → Res) → σ → Heap → Res) (P : Nat → σ → Heap → Prop) (Q : Res → Prop)
    (step : ∀ (n : Nat) (nx : σ → Heap → Res) (s : σ) (h : Heap), P n s h → (∀ m s' h', m < n → P m s' h' → Q (nx s' h')) → Q (F nx s h)) :
    ∀ (f n : Nat) (s : σ) (h : Heap), n < f → P n s h → Q (iterK f F s h) := by
  intro f
  induction f with
  | zero => intro n s h hn; omega
  | succ f ih =>
    intro n s h hn hp
    show Q (F (iterK f F) s h)
    exact step n (iterK f F) s h hp fun m s' h' hm hp' => ih m s' h' (by omega) hp'

end Go.Ha

namespace Go.Ha
open Go.AM Go.Proofs.YtejokpfeepbfeaaAm

/-- The keys from bead i on that are not marked, but for the last bead's. -/
def leftFrom (S : Sys) : Nat → Nat → List Int
  | 0, _ => []
  | n + 1, i =>
    match (S.nodes i).next with
    | none => []
    | some k => (if (S.nodes i).mark = true then [] else [(S.nodes i).key]) ++ leftFrom S n k

def leftL (S : Sys) : List Int :=
  match (S.nodes 0).next with
  | none => []
  | some k => leftFrom S 20 k

def intV64 (k : Int) : Value := .int .i64 k

theorem build_int (h : Heap) (k : Int) : buildSliceR 1 [(.int .i64 0)] h [(0, 1, .int .i64 k)] = some (.ret (.slice (some ⟨h.len, 0, none⟩) 1 1) (h.push (.cells [.int .i64 k] 0 false))) := rfl

section
variable {h : Heap} {S : Sys} {L : Lay}

theorem Rep.below (R : Rep h S L) {h' : Heap} (b : Below h.len h h') : Rep h' S L := R.ext fun i y e => b i y (lt_len e) e

theorem Rep.n1' (R : Rep h S L) {i : Nat} (hi : i < S.nn) : ldR h (.pointer (some ⟨L.nb i, 1, none⟩)) = some (.ret (qo L.nb (S.nodes i).next) h) := ldR_cells (R.node i hi).1 rfl

theorem left_loop {h0 : Heap} (R0 : Rep h0 S L) (N : NodesOk S) (cr : FuncId → List Value → Heap → Res) (m : Nat) : ∀ (f i : Nat) (h : Heap) (v : Value) (l : List Int), Below h0.len h0 h → i < S.nn → 10 - (S.nodes i).key < f → f ≤ 20 → h0.len ≤ h.len → GRow h0.len h 1 v (l.map intV64) l.length → l.length + f ≤ 1000 →
    ∀ n, f ≤ n → ∃ v' h', iterK n (fun nx0 (σ : List Value) h => f19j2 cr m nx0 (σ.headD undef) (σ.tail.headD undef) h) [v, pt (L.nb i)] h = some (.ret v' h') ∧
      GRow h0.len h' 1 v' ((l ++ leftFrom S f i).map intV64) (l ++ leftFrom S f i).length ∧ Below h0.len h0 h' ∧ h0.len ≤ h'.len := by
  intro f
  induction f with
  | zero => intro i h v l B hi hk; exfalso; have := N.le i hi; omega
  | succ f ih =>
    intro i h v l B hi hk h20 hb G hl n hn
    have R := R0.below B
    obtain ⟨n, rfl⟩ : ∃ n', n = n' + 1 := ⟨n - 1, by omega⟩
    have e1 := R.n1' hi
    have hst : iterK (n + 1) (fun nx0 (σ : List Value) h => f19j2 cr m nx0 (σ.headD undef) (σ.tail.headD undef) h) [v, pt (L.nb i)] h =
      f19j2 cr m (iterK n (fun nx0 (σ : List Value) h => f19j2 cr m nx0 (σ.headD undef) (σ.tail.headD undef) h)) v (pt (L.nb i)) h := rfl
    rw [hst]
    cases hnx : (S.nodes i).next with
    | none =>
      rw [hnx] at e1
      have hv : clean v = true := by
        rcases G.2 with ⟨_, rfl⟩ | ⟨_, b, _, rfl, _⟩ <;> rfl
      have e2 : eqNeq .neq (ptrE h (qo L.nb none) (.pointer none)) = some (.bool false) := rfl
      refine ⟨v, h, ?_, by simpa [leftFrom, hnx] using G, B, hb⟩
      simp only [f19j2, pt, bindR_ret, pureR_some, nonnil_q, padd_q, Nat.zero_add, e1, e2, ifR_false]
      simp [f19j1, hv, tup]
    | some k =>
      rw [hnx] at e1
      have e2 : ∀ h, eqNeq .neq (ptrE h (qo L.nb (some k)) (.pointer none)) = some (.bool true) := fun h => rfl
      obtain ⟨hk1, hk2⟩ := N.next i hi k hnx
      have e3 := R.n2 hi
      have e4 := R.n0 hi
      cases hm : (S.nodes i).mark with
      | true =>
        rw [hm] at e3
        obtain ⟨v', h', g1, g2, g3, g4⟩ := ih k h v l B hk1 (by omega) (by omega) hb G (by omega) n (by omega)
        refine ⟨v', h', ?_, by simpa [leftFrom, hnx, hm] using g2, g3, g4⟩
        rw [← g1]
        simp only [f19j2, f19j3, f19j4, pt, bindR_ret, pureR_some, nonnil_q, padd_q, Nat.zero_add, e1, e2, e3, ifR_true, ifR_false, unV_not, Bool.not_true]
        rfl
      | false =>
        rw [hm] at e3
        have hb1 := build_int h (S.nodes i).key
        have G1 := G.below (h' := h.push (.cells [.int .i64 (S.nodes i).key] 0 false)) fun b y e => push_old e
        have hlen : (h.push (.cells [.int .i64 (S.nodes i).key] 0 false)).len = h.len + 1 := by simp [Heap.push, Heap.len]
        obtain ⟨v1, h1, a1, a2, a3, a4⟩ := app_row (w := 1) (m := 1) (bytes := 8) (x := .slice (some ⟨h.len, 0, none⟩) 1 1) (new := [.int .i64 (S.nodes i).key]) G1 (by omega) rfl (elems_row push_new rfl) rfl rfl (by omega) (by omega) (by omega)
        have B1 : Below h0.len h0 h1 := (B.trans (.push h _)).trans a3
        have e5 := (R0.below B1).n1' hi
        rw [hnx] at e5
        have G2 : GRow h0.len h1 1 v1 ((l ++ [(S.nodes i).key]).map intV64) (l ++ [(S.nodes i).key]).length := by simpa [intV64] using a2
        obtain ⟨v', h', g1, g2, g3, g4⟩ := ih k h1 v1 (l ++ [(S.nodes i).key]) B1 hk1 (by omega) (by omega) (by omega) G2 (by simp; omega) n (by omega)
        refine ⟨v', h', ?_, by simpa [leftFrom, hnx, hm] using g2, g3, g4⟩
        rw [← g1]
        simp only [f19j2, f19j3, f19j4, pt, bindR_ret, pureR_some, nonnil_q, padd_q, Nat.zero_add, e1, e2, e3, e4, ifR_true, ifR_false, unV_not, Bool.not_false, hb1, a1, e5]
        rfl

theorem left_ok (R : Rep h S L) (N : NodesOk S) (n : Nat) (hn : 20 ≤ n) : ∃ v h', run (n + 1) 19 [pt L.T] h = some (.ret v h') ∧ GRow h.len h' 1 v ((leftL S).map intV64) (leftL S).length ∧ Below h.len h h' ∧ h.len ≤ h'.len := by
  obtain ⟨m, h1, h2, h3⟩ := N.headNext
  obtain ⟨v, h', g1, g2, g3, g4⟩ := left_loop R N (run n) n 20 m h (.slice none 0 0) [] (.refl _ _) h2 (by omega) (by omega) (by omega) ⟨rfl, .inl ⟨rfl, rfl⟩⟩ (by simp) n hn
  have hl : leftL S = leftFrom S 20 m := by simp [leftL, h1]
  refine ⟨v, h', ?_, by rw [hl]; simpa using g2, g3, g4⟩
  rw [← g1, run, callR_succ, eq19]
  simp only [f19, pt, bindR_ret, pureR_some, nonnil_q, padd_q, Nat.zero_add, R.t1, R.n1 R.first h1]
end
end Go.Ha

namespace Go.Ha
open Go.AM Go.Proofs.YtejokpfeepbfeaaAm

abbrev Inp := Nat → Option Blk

/-- The rows that are only read lie in the heap. -/
def InpOk (inp : Inp) (h : Heap) : Prop := ∀ b r, inp b = some r → h.bs[b]? = some r
theorem InpOk.below {inp : Inp} {h h' : Heap} (I : InpOk inp h) (B : Below h.len h h') : InpOk inp h' := fun b r e => B b _ (lt_len (I b r e)) (I b r e)
theorem InpOk.below' {inp : Inp} {h0 h h' : Heap} (I : InpOk inp h0) (B : Below h0.len h0 h) (C : Below h0.len h h') : InpOk inp h' := I.below (B.trans C)

def IntsAt (inp : Inp) (v : Value) (l : List Int) : Prop :=
  (l = [] ∧ ∃ b c, v = .slice b 0 c) ∨ ∃ b o c r, v = .slice (some ⟨b, o, none⟩) l.length c ∧ (inp b).bind rowOf = some r ∧ ∀ i x, l[i]? = some x → r[o + i * 1]? = some (.int .i64 x)

def RowsAt (inp : Inp) (v : Value) (l : List (List (Int × Int))) : Prop :=
  (l = [] ∧ ∃ b c, v = .slice b 0 c) ∨ ∃ b o c r, v = .slice (some ⟨b, o, none⟩) l.length c ∧ (inp b).bind rowOf = some r ∧ ∀ i x, l[i]? = some x → ∃ w, r[o + i * 1]? = some w ∧ ProgAt inp w x

section
variable {inp : Inp} {h : Heap}

theorem IntsAt.len {v : Value} {l : List Int} (A : IntsAt inp v l) : lenRS h v = some (.ret (.int .i64 (l.length : Nat)) h) := by
  rcases A with ⟨rfl, b, c, rfl⟩ | ⟨b, o, c, r, rfl, _⟩ <;> rfl
theorem RowsAt.len {v : Value} {l : List (List (Int × Int))} (A : RowsAt inp v l) : lenRS h v = some (.ret (.int .i64 (l.length : Nat)) h) := by
  rcases A with ⟨rfl, b, c, rfl⟩ | ⟨b, o, c, r, rfl, _⟩ <;> rfl
theorem ProgAt.len {v : Value} {l : List (Int × Int)} (A : ProgAt inp v l) : lenRS h v = some (.ret (.int .i64 (l.length : Nat)) h) := by
  rcases A with ⟨rfl, b, o, c, rfl, rfl⟩ | ⟨b, o, c, r, rfl, _⟩ <;> rfl

theorem IntsAt.get (I : InpOk inp h) {v : Value} {l : List Int} (A : IntsAt inp v l) {i : Nat} {x : Int} (hx : l[i]? = some x) :
    ∃ a, idxS 1 v (.int .i64 i) = some a ∧ ldR h a = some (.ret (.int .i64 x) h) := by
  rcases A with ⟨rfl, _⟩ | ⟨b, o, c, r, rfl, h1, h2⟩
  · simp at hx
  · exact ⟨_, idxS_nat (List.getElem?_eq_some_iff.1 hx).1, ldR_inp I h1 (h2 i x hx)⟩
theorem RowsAt.get (I : InpOk inp h) {v : Value} {l : List (List (Int × Int))} (A : RowsAt inp v l) {i : Nat} {x : List (Int × Int)} (hx : l[i]? = some x) :
    ∃ a w, idxS 1 v (.int .i64 i) = some a ∧ ldR h a = some (.ret w h) ∧ ProgAt inp w x := by
  rcases A with ⟨rfl, _⟩ | ⟨b, o, c, r, rfl, h1, h2⟩
  · simp at hx
  · obtain ⟨w, h3, h4⟩ := h2 i x hx
    exact ⟨_, w, idxS_nat (List.getElem?_eq_some_iff.1 hx).1, ldR_inp I h1 h3, h4⟩
theorem ProgAt.get (I : InpOk inp h) {v : Value} {l : List (Int × Int)} (A : ProgAt inp v l) {i : Nat} {x : Int × Int} (hx : l[i]? = some x) :
    ∃ a, idxS 2 v (.int .i64 i) = some a ∧ ldNR h 2 a = some (.ret (.agg #[.int .i64 x.1, .int .i64 x.2]) h) := by
  rcases A with ⟨rfl, _⟩ | ⟨b, o, c, r, rfl, h1, h2⟩
  · simp at hx
  · obtain ⟨h3, h4⟩ := h2 i x.1 x.2 hx
    refine ⟨_, idxS_nat (List.getElem?_eq_some_iff.1 hx).1, ?_⟩
    have l1 := (List.getElem?_eq_some_iff.1 h3).1
    have l2 := (List.getElem?_eq_some_iff.1 h4).1
    have hb : Nat.ble (o + i * 2 + 2) r.length = true := by rw [Nat.ble_eq]; omega
    have e : (r.drop (o + i * 2)).take 2 = [.int .i64 x.1, .int .i64 x.2] := by
      rw [List.drop_eq_getElem_cons l1, List.drop_eq_getElem_cons l2]
      simp only [List.take_succ_cons, List.take_zero]
      rw [(List.getElem?_eq_some_iff.1 h3).2, (List.getElem?_eq_some_iff.1 h4).2]
    simp only [ldNR, ldN, row_inp I h1, Option.bind_some, cut, hb, cond_true, e, Option.map_some, pureR]

theorem within_ok (x lo hi : Int) (n : Nat) (h : Heap) : run (n + 1) 17 [.int .i64 x, .int .i64 lo, .int .i64 hi] h = some (.ret (.bool (inside x lo hi)) h) := by
  rw [run, callR_succ, eq17]
  by_cases h1 : x ≥ lo
  · have h1' : lo ≤ x := h1
    simp [f17, h1, h1', inside, clean, tup]
  · have h1' : ¬ lo ≤ x := h1
    simp [f17, h1, h1', inside, clean, tup]

def deedB (d : Int × Int) : Bool := inside d.1 1 3 && inside d.2 0 9
def ascB : Option Int → List Int → Bool
  | _, [] => true
  | p, x :: l => inside x 0 9 && (match p with | none => true | some y => decide (y < x)) && ascB (some x) l

/-- What is wrong with what is handed in. -/
def rightE (algo : Int) (start : List Int) (progs : List (List (Int × Int))) (order : List Int) : Int :=
  if inside algo 1 4 = false then 1
  else if 4 < progs.length ∨ 500 < order.length then 2
  else if progs.all (fun p => decide (p.length ≤ 4)) = false then 2
  else if ascB none start = false then 3
  else if progs.all (fun p => p.all deedB) = false then 3
  else 0

theorem intB_sub {n : Nat} (h : n + 1 < 9223372036854775808) : intB .sub (.int .i64 (n + 1 : Nat)) (.int .i64 1) = some (.int .i64 n) := by
  have e : ((n + 1 : Nat) : Int) - 1 = n := by omega
  have : IntKind.i64.wrap (((n + 1 : Nat) : Int) - 1) = n := by rw [e]; exact wrap_in (by omega)
  have e2 : IntKind.i64.wrap (n : Int) = n := wrap_in (by omega)
  simp [intB, isShift, intV, e2]
theorem intB_inc' {n : Nat} (h : n < 9223372036854775807) : intB .add (.int .i64 n) (.int .i64 1) = some (.int .i64 (n + 1 : Nat)) := by
  have : IntKind.i64.wrap ((n : Int) + 1) = (n + 1 : Nat) := by rw [wrap_in (by omega)]; rfl
  simp [intB, isShift, intV, this]

/-- The loop over the hands' lengths. -/
theorem right_len (I : InpOk inp h) {t1 v : Value} {l : List (List (Int × Int))} (A : RowsAt inp v l) (hl : l.length < 1000000) (cr : FuncId → List Value → Heap → Res) (m f : Nat) (hf : l.length < f) :
    iterK f (fun nx0 (σ : List Value) h => f16j15 cr m nx0 t1 v v (.int .i64 (l.length : Nat)) (σ.headD undef) h) [.int .i64 (0 : Nat)] h =
      if l.all (fun p => decide (p.length ≤ 4)) then f16j3 cr m t1 v h else some (.ret (.int .i64 2) h) := by
  refine iterK_rule (σ := List Value) _ (fun n s h' => h' = h ∧ ∃ i : Nat, i + n = l.length ∧ s = [.int .i64 i] ∧ l.all (fun p => decide (p.length ≤ 4)) = (l.drop i).all (fun p => decide (p.length ≤ 4)))
    (fun r => r = if l.all (fun p => decide (p.length ≤ 4)) then f16j3 cr m t1 v h else some (.ret (.int .i64 2) h)) ?_ f l.length _ h hf ⟨rfl, 0, by omega, rfl, rfl⟩
  rintro n nx s _ ⟨rfl, i, hi, rfl, hall⟩ ih
  simp only [List.headD_cons]
  by_cases hlt : i < l.length
  · have hx : l[i]? = some l[i] := List.getElem?_eq_getElem hlt
    obtain ⟨a, w, e1, e2, e3⟩ := A.get I hx
    have hd : l.drop i = l[i] :: l.drop (i + 1) := List.drop_eq_getElem_cons hlt
    have hc : decide ((i : Int) < (l.length : Nat)) = true := by simp; exact hlt
    simp only [f16j15, intB_lss, hc, bindR_ret, pureR_some, ifR_true, f16j16, e1, e2, e3.len, intB_gtr]
    rw [hd] at hall
    by_cases h4 : l[i].length ≤ 4
    · have h5 : decide (((l[i].length : Nat) : Int) > 4) = false := by simp; omega
      simp only [List.all_cons, h4, decide_true, Bool.true_and] at hall
      simp only [h5, ifR_false, f16j17, bindR_ret, pureR_some, intB_inc' (n := i) (by omega)]
      exact ih (n - 1) _ _ (by omega) ⟨rfl, i + 1, by omega, rfl, hall⟩
    · have h5 : decide (((l[i].length : Nat) : Int) > 4) = true := by simp; omega
      simp only [List.all_cons, h4, decide_false, Bool.false_and] at hall
      simp only [hall, Bool.false_eq_true, if_false, h5, ifR_true, bindR_ret, clean, cond_true, Option.bind_some, tup]
  · have hd : l.drop i = [] := List.drop_eq_nil_of_le (by omega)
    have hc : decide ((i : Int) < (l.length : Nat)) = false := by simp; omega
    rw [hd] at hall
    simp only [f16j15, intB_lss, hc, bindR_ret, pureR_some, ifR_false, hall, List.all_nil, if_true]
    rfl

theorem idxS_at {v : Value} {l : List Int} (I : InpOk inp h) (A : IntsAt inp v l) {i : Nat} {x : Int} (hx : l[i]? = some x) : ∃ a, idxS 1 v (.int .i64 i) = some a ∧ ldR h a = some (.ret (.int .i64 x) h) := A.get I hx

/-- The loop over the keys. -/
theorem right_keys (I : InpOk inp h) {t2 v : Value} {l : List Int} (A : IntsAt inp v l) (hl : l.length < 9223372036854775808) (n m f : Nat) (hf : l.length < f) :
    iterK f (fun nx2 (σ : List Value) h => f16j12 (run (n + 1)) m nx2 v t2 v (.int .i64 (l.length : Nat)) (σ.headD undef) h) [.int .i64 (0 : Nat)] h =
      if ascB none l then f16j4 (run (n + 1)) m t2 h else some (.ret (.int .i64 3) h) := by
  refine iterK_rule (σ := List Value) _ (fun n s h' => h' = h ∧ ∃ i : Nat, i + n = l.length ∧ s = [.int .i64 i] ∧ ascB none l = ascB (if i = 0 then none else l[i - 1]?) (l.drop i))
    (fun r => r = if ascB none l then f16j4 (run (n + 1)) m t2 h else some (.ret (.int .i64 3) h)) ?_ f l.length _ h hf ⟨rfl, 0, by omega, rfl, by simp⟩
  rintro k nx s h' ⟨he, i, hi, rfl, hall⟩ ih
  rw [he]
  simp only [List.headD_cons]
  by_cases hlt : i < l.length
  · have hx : l[i]? = some l[i] := List.getElem?_eq_getElem hlt
    obtain ⟨a, e1, e2⟩ := A.get I hx
    have hd : l.drop i = l[i] :: l.drop (i + 1) := List.drop_eq_getElem_cons hlt
    have hc : decide ((i : Int) < (l.length : Nat)) = true := by simp; exact hlt
    rw [hd] at hall
    have hw := within_ok l[i] 0 9 n h
    have next : ascB none l = ascB (some l[i]) (l.drop (i + 1)) → f16j14 (run (n + 1)) m nx v t2 v (.int .i64 (l.length : Nat)) (.int .i64 i) h = if ascB none l then f16j4 (run (n + 1)) m t2 h else some (.ret (.int .i64 3) h) := by
      intro hn
      simp only [f16j14, bindR_ret, pureR_some, intB_inc' (n := i) (by omega)]
      exact ih (k - 1) _ _ (by omega) ⟨rfl, i + 1, by omega, rfl, by rw [if_neg (by omega)]; simpa [hx] using hn⟩
    simp only [f16j12, intB_lss, hc, bindR_ret, pureR_some, ifR_true, f16j13, e1, e2, hw, unV_not]
    have gsk : ∀ w r h, gd w skipV r h = some (.ret skipV h) := fun w r h => gd_skip w r h
    cases hin : inside l[i] 0 9 with
    | false =>
      have hf : ascB none l = false := by rw [hall]; simp [ascB, hin]
      simp only [hin, Bool.not_false, gd_true, cond_false, bindR_ret, gsk, gd_skip, pickV_b, cond_true, ifR_true, pureR_some, hf, Bool.false_eq_true, if_false, clean, Option.bind_some, tup]
    | true =>
      by_cases h0 : i = 0
      · subst h0
        have hz : decide (((0 : Nat) : Int) > 0) = false := rfl
        rw [if_pos rfl] at hall
        simp only [ascB, hin, Bool.true_and] at hall
        rw [← next hall]
        simp only [hin, Bool.not_true, gd_false, cond_false, cond_true, bindR_ret, gsk, gd_skip, pickV_b, ifR_false, pureR_some, intB_gtr, hz]
      · have hz : decide ((i : Int) > 0) = true := by simp; omega
        obtain ⟨i', rfl⟩ : ∃ i', i = i' + 1 := ⟨i - 1, by omega⟩
        rw [if_neg h0] at hall
        have hx' : l[i']? = some l[i'] := List.getElem?_eq_getElem (by omega)
        obtain ⟨a', e3, e4⟩ := A.get I hx'
        simp only [Nat.add_sub_cancel, hx', ascB, hin, Bool.true_and] at hall
        simp only [hin, Bool.not_true, gd_false, gd_true, cond_false, cond_true, bindR_ret, pickV_b, pureR_some, intB_gtr, hz, intB_sub (n := i') (by omega), e3, e4, intB_geq]
        cases hlt' : decide (l[i'] < l[i' + 1]) with
        | true =>
          have hge : decide (l[i'] ≥ l[i' + 1]) = false := by simp at hlt' ⊢; omega
          rw [hlt', Bool.true_and] at hall
          rw [← next hall]
          simp only [hge, ifR_false, pureR_some, bindR_ret]
        | false =>
          have hge : decide (l[i'] ≥ l[i' + 1]) = true := by simp at hlt' ⊢; omega
          have hf : ascB none l = false := by rw [hall, hlt', Bool.false_and]
          simp only [hge, ifR_true, pureR_some, bindR_ret, hf, Bool.false_eq_true, if_false, clean, cond_true, Option.bind_some, tup]
  · have hd : l.drop i = [] := List.drop_eq_nil_of_le (by omega)
    have hc : decide ((i : Int) < (l.length : Nat)) = false := by simp; omega
    rw [hd] at hall
    simp only [f16j12, intB_lss, hc, bindR_ret, pureR_some, ifR_false, hall, ascB, if_true]
    rfl

theorem st2 {h : Heap} (a b : Int) : stNR (h.push (.cells [.int .i64 0, .int .i64 0] 0 false)) 2 (pt h.len) (.agg #[.int .i64 a, .int .i64 b]) = some (.ret undef (h.push (.cells [.int .i64 a, .int .i64 b] 0 false))) := by
  have e1 : Nat.beq 2 2 = true := rfl
  have e2 : Nat.ble (0 + 2) 2 = true := rfl
  simp [stNR, stL, pt, push_new, e1, e2, cellsOk, cellOk, setL, upd_push]

theorem new2 (h : Heap) : newR h [(.int .i64 0), (.int .i64 0)] = some (.ret (pt h.len) (h.push (.cells [.int .i64 0, .int .i64 0] 0 false))) := rfl

/-- The loop over one hand's deeds. -/
theorem right_prog {h0 : Heap} (I0 : InpOk inp h0) {w : Value} {p : List (Int × Int)} (A : ProgAt inp w p) (hl : p.length < 9223372036854775808) (n m : Nat) (nx4 : List Value → Heap → Res) (t62 t63 t64 : Value) (Q : Res → Prop)
    (good : p.all deedB = true → ∀ h', Below h0.len h0 h' → h0.len ≤ h'.len → Q (f16j8 (run (n + 1)) m nx4 t62 t63 t64 h'))
    (bad : p.all deedB = false → ∀ h', Below h0.len h0 h' → h0.len ≤ h'.len → Q (some (.ret (.int .i64 3) h')))
    (f : Nat) (hf : p.length < f) :
    Q (iterK f (fun nx6 (σ : List Value) h => f16j9 (run (n + 1)) m nx4 nx6 t62 t63 t64 w (.int .i64 (p.length : Nat)) (σ.headD undef) h) [.int .i64 (0 : Nat)] h0) := by
  refine iterK_rule (σ := List Value) _ (fun n s h' => Below h0.len h0 h' ∧ h0.len ≤ h'.len ∧ ∃ i : Nat, i + n = p.length ∧ s = [.int .i64 i] ∧ p.all deedB = (p.drop i).all deedB) Q ?_ f p.length _ h0 hf ⟨.refl _ _, Nat.le_refl _, 0, by omega, rfl, rfl⟩
  rintro k nx s h ⟨B, hle, i, hi, rfl, hall⟩ ih
  have I := I0.below B
  simp only [List.headD_cons]
  by_cases hlt : i < p.length
  · have hx : p[i]? = some p[i] := List.getElem?_eq_getElem hlt
    obtain ⟨a, e1, e2⟩ := A.get I hx
    have hd : p.drop i = p[i] :: p.drop (i + 1) := List.drop_eq_getElem_cons hlt
    have hc : decide ((i : Int) < (p.length : Nat)) = true := by simp; exact hlt
    rw [hd] at hall
    simp only [List.all_cons] at hall
    have gsk : ∀ w r h, gd w skipV r h = some (.ret skipV h) := fun w r h => gd_skip w r h
    obtain ⟨h1, hh1⟩ : ∃ h1, h1 = h.push (.cells [.int .i64 p[i].1, .int .i64 p[i].2] 0 false) := ⟨_, rfl⟩
    have hs := st2 (h := h) p[i].1 p[i].2
    rw [← hh1] at hs
    have hnew : h1.bs[h.len]? = some (.cells [.int .i64 p[i].1, .int .i64 p[i].2] 0 false) := by rw [hh1]; exact push_new
    have l0 : ldR h1 (.pointer (some ⟨h.len, 0, none⟩)) = some (.ret (.int .i64 p[i].1) h1) := ldR_cells hnew rfl
    have l1 : ldR h1 (.pointer (some ⟨h.len, 1, none⟩)) = some (.ret (.int .i64 p[i].2) h1) := ldR_cells hnew rfl
    have B1 : Below h0.len h0 h1 := by rw [hh1]; exact B.trans (.push h _)
    have hle1 : h0.len ≤ h1.len := by rw [hh1]; simp [Heap.len, Heap.push] at *; omega
    have w1 := within_ok p[i].1 1 3 n h1
    have w2 := within_ok p[i].2 0 9 n h1
    have next : p.all deedB = (p.drop (i + 1)).all deedB → Q (f16j11 (run (n + 1)) m nx4 nx t62 t63 t64 w (.int .i64 (p.length : Nat)) (.int .i64 i) h1) := by
      intro hn
      simp only [f16j11, bindR_ret, pureR_some, intB_inc' (n := i) (by omega)]
      exact ih (k - 1) _ _ (by omega) ⟨B1, hle1, i + 1, by omega, rfl, hn⟩
    simp only [pt] at hs
    simp only [f16j9, intB_lss, hc, bindR_ret, pureR_some, ifR_true, f16j10, e1, e2, new2, pt, hs, padd_q, Nat.zero_add, l0, w1, unV_not]
    cases c1 : inside p[i].1 1 3 with
    | false =>
      have hf' : p.all deedB = false := by rw [hall]; simp [deedB, c1]
      simp only [Bool.not_false, gd_true, cond_false, bindR_ret, gsk, gd_skip, pickV_b, cond_true, ifR_true, pureR_some, clean, Option.bind_some, tup]
      exact bad hf' h1 B1 hle1
    | true =>
      simp only [Bool.not_true, gd_false, cond_false, bindR_ret, l1, w2, unV_not, pureR_some, pickV_b]
      cases c2 : inside p[i].2 0 9 with
      | false =>
        have hf' : p.all deedB = false := by rw [hall]; simp [deedB, c1, c2]
        simp only [Bool.not_false, ifR_true, clean, cond_true, Option.bind_some, tup, pureR_some, bindR_ret]
        exact bad hf' h1 B1 hle1
      | true =>
        simp only [Bool.not_true, ifR_false, pureR_some, bindR_ret]
        exact next (by rw [hall]; simp [deedB, c1, c2])
  · have hd : p.drop i = [] := List.drop_eq_nil_of_le (by omega)
    have hc : decide ((i : Int) < (p.length : Nat)) = false := by simp; omega
    rw [hd] at hall
    simp only [f16j9, intB_lss, hc, bindR_ret, pureR_some, ifR_false]
    exact good (by rw [hall]; rfl) h B hle

/-- The loop over all hands' deeds. -/
theorem right_progs {h0 : Heap} (I0 : InpOk inp h0) {v : Value} {l : List (List (Int × Int))} (A : RowsAt inp v l) (hl : l.length < 1000000) (hp : ∀ p ∈ l, p.length ≤ 4) (n m : Nat) (hm : l.length < m) (hm2 : 4 < m) :
    ∃ h', f16j4 (run (n + 1)) m v h0 = some (.ret (.int .i64 (if l.all (fun p => p.all deedB) then 0 else 3)) h') ∧ Below h0.len h0 h' ∧ h0.len ≤ h'.len := by
  simp only [f16j4, bindR_ret, A.len]
  refine iterK_rule (σ := List Value) _ (fun n s h' => Below h0.len h0 h' ∧ h0.len ≤ h'.len ∧ ∃ i : Nat, i + n = l.length ∧ s = [.int .i64 i] ∧ l.all (fun p => p.all deedB) = (l.drop i).all (fun p => p.all deedB))
    (fun r => ∃ h', r = some (.ret (.int .i64 (if l.all (fun p => p.all deedB) then 0 else 3)) h') ∧ Below h0.len h0 h' ∧ h0.len ≤ h'.len) ?_ m l.length _ h0 hm ⟨.refl _ _, Nat.le_refl _, 0, by omega, rfl, rfl⟩
  rintro k nx s h ⟨B, hle, i, hi, rfl, hall⟩ ih
  have I := I0.below B
  simp only [List.headD_cons]
  by_cases hlt : i < l.length
  · have hx : l[i]? = some l[i] := List.getElem?_eq_getElem hlt
    obtain ⟨a, w, e1, e2, e3⟩ := A.get I hx
    have hd : l.drop i = l[i] :: l.drop (i + 1) := List.drop_eq_getElem_cons hlt
    have hc : decide ((i : Int) < (l.length : Nat)) = true := by simp; exact hlt
    have hpl := hp _ (List.getElem_mem hlt)
    rw [hd] at hall
    simp only [List.all_cons] at hall
    simp only [f16j6, intB_lss, hc, bindR_ret, pureR_some, ifR_true, f16j7, e1, e2, e3.len]
    have C : ∀ h', Below h.len h h' → h.len ≤ h'.len → Below h0.len h0 h' ∧ h0.len ≤ h'.len := fun h' b hl' => ⟨fun b' y hb e => b b' y (by omega) (B b' y hb e), by omega⟩
    refine right_prog I e3 (by omega) n m nx v (.int .i64 (l.length : Nat)) (.int .i64 i) (fun r => ∃ h', r = some (.ret (.int .i64 (if l.all (fun p => p.all deedB) then 0 else 3)) h') ∧ Below h0.len h0 h' ∧ h0.len ≤ h'.len) ?_ ?_ m (by omega)
    · intro ha h' b1 b2
      obtain ⟨B1, hle1⟩ := C h' b1 b2
      simp only [f16j8, bindR_ret, pureR_some, intB_inc' (n := i) (by omega)]
      exact ih (k - 1) _ _ (by omega) ⟨B1, hle1, i + 1, by omega, rfl, by rw [hall, ha, Bool.true_and]⟩
    · intro ha h' b1 b2
      obtain ⟨B1, hle1⟩ := C h' b1 b2
      exact ⟨h', by rw [hall, ha]; rfl, B1, hle1⟩
  · have hd : l.drop i = [] := List.drop_eq_nil_of_le (by omega)
    have hc : decide ((i : Int) < (l.length : Nat)) = false := by simp; omega
    rw [hd] at hall
    refine ⟨h, ?_, B, hle⟩
    simp only [f16j6, intB_lss, hc, bindR_ret, pureR_some, ifR_false, hall, List.all_nil, if_true]
    rfl

/-- What is wrong with what is handed in is told. -/
theorem right_ok {h0 : Heap} (I0 : InpOk inp h0) {algo : Int} {v1 v2 v3 : Value} {start order : List Int} {progs : List (List (Int × Int))} (A1 : IntsAt inp v1 start) (A2 : RowsAt inp v2 progs) (A3 : IntsAt inp v3 order)
    (hs : start.length < 9223372036854775808) (n : Nat) (hn : 10 < n) (hn1 : start.length < n) :
    ∃ h', run (n + 1) 16 [.int .i64 algo, v1, v2, v3] h0 = some (.ret (.int .i64 (rightE algo start progs order)) h') ∧ Below h0.len h0 h' ∧ h0.len ≤ h'.len := by
  rw [run, callR_succ, eq16]
  obtain ⟨n, rfl⟩ : ∃ n', n = n' + 1 := ⟨n - 1, by omega⟩
  have w := within_ok algo 1 4 n h0
  have gsk : ∀ w r h, gd w skipV r h = some (.ret skipV h) := fun w r h => gd_skip w r h
  simp only [run] at w
  simp only [f16, bindR_ret, w, unV_not, pureR_some]
  cases ca : inside algo 1 4 with
  | false =>
    refine ⟨h0, ?_, .refl _ _, Nat.le_refl _⟩
    simp only [rightE, ca, if_true, Bool.not_false, ifR_true, clean, cond_true, Option.bind_some, tup]
  | true =>
    simp only [Bool.not_true, ifR_false, f16j1, bindR_ret, A2.len, intB_gtr, pureR_some]
    have hre : rightE algo start progs order = if 4 < progs.length ∨ 500 < order.length then 2
      else if progs.all (fun p => decide (p.length ≤ 4)) = false then 2
      else if ascB none start = false then 3
      else if progs.all (fun p => p.all deedB) = false then 3 else 0 := by simp [rightE, ca]
    rw [hre]
    by_cases h4 : 4 < progs.length
    · have hc : decide (((progs.length : Nat) : Int) > 4) = true := by simp; omega
      refine ⟨h0, ?_, .refl _ _, Nat.le_refl _⟩
      simp only [hc, gd_true, cond_false, bindR_ret, gsk, gd_skip, pickV_b, cond_true, ifR_true, clean, Option.bind_some, tup, pureR_some, h4, true_or, if_true]
    · have hc : decide (((progs.length : Nat) : Int) > 4) = false := by simp; omega
      simp only [hc, gd_false, cond_false, bindR_ret, A3.len, intB_gtr, pickV_b, pureR_some]
      by_cases h5 : 500 < order.length
      · have hc5 : decide (((order.length : Nat) : Int) > 500) = true := by simp; omega
        refine ⟨h0, ?_, .refl _ _, Nat.le_refl _⟩
        simp only [hc5, ifR_true, clean, cond_true, Option.bind_some, tup, bindR_ret, h5, or_true, if_true]
      · have hc5 : decide (((order.length : Nat) : Int) > 500) = false := by simp; omega
        simp only [hc5, ifR_false, f16j2, bindR_ret, A2.len, h4, h5, or_false, if_false]
        have e1 := right_len I0 (t1 := v1) A2 (by omega) (run (n + 1)) (n + 1) (n + 1) (by omega)
        simp only [run] at e1
        have e0 : ((0 : Nat) : Int) = 0 := rfl
        rw [e0] at e1
        rw [e1]
        cases c1 : progs.all (fun p => decide (p.length ≤ 4)) with
        | false => exact ⟨h0, by simp, .refl _ _, Nat.le_refl _⟩
        | true =>
          simp only [if_true, f16j3, bindR_ret, A1.len]
          have e2 := right_keys I0 (t2 := v2) A1 hs n (n + 1) (n + 1) (by omega)
          simp only [run] at e2
          rw [e0] at e2
          rw [e2]
          cases c2 : ascB none start with
          | false => exact ⟨h0, by simp, .refl _ _, Nat.le_refl _⟩
          | true =>
            obtain ⟨h', e3, B, hle⟩ := right_progs I0 A2 (by omega) (by simpa using c1) n (n + 1) (by omega) (by omega)
            refine ⟨h', ?_, B, hle⟩
            simp only [run] at e3
            simp only [if_true, e3]
            cases progs.all (fun p => p.all deedB) <;> rfl
end
end Go.Ha

namespace Go.Ha
open Go.AM Go.Proofs.YtejokpfeepbfeaaAm

theorem gd_tt (r : Res) (h : Heap) : gd true (.bool true) r h = r := Eq.trans rfl rfl
theorem gd_ff (r : Res) (h : Heap) : gd false (.bool false) r h = r := Eq.trans rfl rfl
theorem gd_tf (r : Res) (h : Heap) : gd true (.bool false) r h = some (.ret skipV h) := Eq.trans rfl rfl
theorem gd_ft (r : Res) (h : Heap) : gd false (.bool true) r h = some (.ret skipV h) := Eq.trans rfl rfl
theorem pickV_t (a b : Value) : pickV (.bool true) a b = some a := Eq.trans rfl rfl
theorem pickV_f (a b : Value) : pickV (.bool false) a b = some b := Eq.trans rfl rfl

section
variable {L0 : Lay}

/-- A state of the run. -/
structure Going (L0 : Lay) (h : Heap) (S : Sys) : Prop where
  rep : ∃ L, Rep h S L ∧ Keep L0 L
  inv : Inv S

theorem Going.step {h : Heap} {S : Sys} (G : Going L0 h S) {j : Nat} (hj : j < S.nh) (hn : S.now < 1000000) (n : Nat) :
    ∃ h', run (n + 4) 18 [pt L0.T, .int .i64 j] h = some (.ret (.bool (hasDeed S j)) h') ∧ Going L0 h' (S.step j) := by
  obtain ⟨L, R, K⟩ := G.rep
  obtain ⟨h', L', e, R', K'⟩ := step_ok R (G.inv.ready hj hn) n
  rw [K.T] at e
  exact ⟨h', e, ⟨L', R', K.trans K'⟩, G.inv.step hj⟩

theorem Going.ro {h : Heap} {S : Sys} (G : Going L0 h S) : InpOk L0.inp h := by
  obtain ⟨L, R, K⟩ := G.rep
  intro b r hb
  exact (R.inp b r (by rw [K.inp]; exact hb)).1

/-- By the order. -/
theorem order_ok {v2 v3 t8 : Value} {progs : List (List (Int × Int))} {order : List Int} (A2 : RowsAt L0.inp v2 progs) (A3 : IntsAt L0.inp v3 order) (hp : progs.length < 1000) (ho : order.length ≤ 500) (n : Nat) (hn : 1000 < n) {h0 : Heap} {S0 : Sys}
    (G0 : Going L0 h0 S0) (hnh : S0.nh = progs.length) (hnow : S0.now = 0) (Q : Res → Prop)
    (cont : ∀ h, Going L0 h (runOrder S0 order) → (runOrder S0 order).now ≤ 500 → (runOrder S0 order).nh = progs.length → Q (f9j4 (run (n + 4)) (n + 4) v2 t8 (pt L0.T) h)) :
    Q (f9j3 (run (n + 4)) (n + 4) v2 v3 t8 (pt L0.T) h0) := by
  simp only [f9j3, bindR_ret, A3.len]
  refine iterK_rule (σ := List Value) _ (fun k s h => ∃ (i : Nat) (S : Sys), i + k = order.length ∧ s = [.int .i64 i] ∧ Going L0 h S ∧ S.nh = progs.length ∧ S.now ≤ i ∧ runOrder S (order.drop i) = runOrder S0 order)
    Q ?_ (n + 4) order.length _ h0 (by omega) ⟨0, S0, by omega, rfl, G0, hnh, by omega, rfl⟩
  rintro k nx s h ⟨i, S, hi, rfl, G, hS, hSn, hrun⟩ ih
  simp only [List.headD_cons]
  by_cases hlt : i < order.length
  · have hx : order[i]? = some order[i] := List.getElem?_eq_getElem hlt
    obtain ⟨a, e1, e2⟩ := A3.get G.ro hx
    have hd : order.drop i = order[i] :: order.drop (i + 1) := List.drop_eq_getElem_cons hlt
    have hc : decide ((i : Int) < (order.length : Nat)) = true := by simp; exact hlt
    rw [hd] at hrun
    have hsub : intB .sub (.int .i64 (progs.length : Nat)) (.int .i64 1) = some (.int .i64 ((S.nh : Int) - 1)) := by
      have : IntKind.i64.wrap (((progs.length : Nat) : Int) - 1) = (S.nh : Int) - 1 := by rw [wrap_in (by omega), hS]
      simp [intB, isShift, intV, this]
    have hw := within_ok order[i] 0 ((S.nh : Int) - 1) (n + 3) h
    simp only [f9j15, intB_lss, hc, bindR_ret, pureR_some, ifR_true, f9j16, e1, e2, A2.len, hsub, hw]
    have hstep : runOrder S (order[i] :: order.drop (i + 1)) = runOrder (if inside order[i] 0 ((S.nh : Int) - 1) then S.step order[i].toNat else S) (order.drop (i + 1)) := rfl
    rw [hstep] at hrun
    cases hin : inside order[i] 0 ((S.nh : Int) - 1) with
    | false =>
      simp only [hin, Bool.false_eq_true, if_false] at hrun
      simp only [ifR_false, f9j17, bindR_ret, pureR_some, intB_inc' (n := i) (by omega)]
      exact ih (k - 1) _ _ (by omega) ⟨i + 1, S, by omega, rfl, G, hS, by omega, hrun⟩
    | true =>
      simp only [hin, if_true] at hrun
      have hin' : 0 ≤ order[i] ∧ order[i] ≤ (S.nh : Int) - 1 := by simpa [inside] using hin
      have hj : order[i].toNat < S.nh := by omega
      obtain ⟨h', e3, G'⟩ := G.step hj (by omega) n
      have ecast : ((order[i].toNat : Nat) : Int) = order[i] := by omega
      rw [ecast] at e3
      simp only [ifR_true, f9j17, bindR_ret, pureR_some, intB_inc' (n := i) (by omega), e3]
      refine ih (k - 1) _ _ (by omega) ⟨i + 1, _, by omega, rfl, G', by rw [step_nh]; exact hS, ?_, hrun⟩
      rw [step_now]; split <;> omega
  · have hd : order.drop i = [] := List.drop_eq_nil_of_le (by omega)
    have hc : decide ((i : Int) < (order.length : Nat)) = false := by simp; omega
    rw [hd] at hrun
    have hrun' : S = runOrder S0 order := hrun
    simp only [f9j15, intB_lss, hc, bindR_ret, pureR_some, ifR_false]
    subst hrun'
    exact cont h G (by omega) hS

/-- A round. -/
theorem sweep_ok {v2 t8 : Value} {progs : List (List (Int × Int))} (A2 : RowsAt L0.inp v2 progs) (hp : progs.length < 1000) (n : Nat) (hn : 1000 < n) {h0 : Heap} {S0 : Sys}
    (G0 : Going L0 h0 S0) (hnh : S0.nh = progs.length) (hnow : S0.now ≤ 4000) (nx6 : List Value → Heap → Res) (Q : Res → Prop)
    (cont : ∀ h, Going L0 h (sweepFrom S0.nh S0 false 0).1 → Q (nx6 [.bool (sweepFrom S0.nh S0 false 0).2] h)) :
    Q (f9j11 (run (n + 4)) (n + 4) nx6 v2 t8 (pt L0.T) h0) := by
  simp only [f9j11, bindR_ret, A2.len]
  refine iterK_rule (σ := List Value) _ (fun k s h => ∃ (i : Nat) (S : Sys) (b : Bool), i + k = progs.length ∧ s = [.bool b, .int .i64 i] ∧ Going L0 h S ∧ S.nh = progs.length ∧ S.now ≤ 4000 ∧ sweepFrom k S b i = sweepFrom S0.nh S0 false 0)
    Q ?_ (n + 4) progs.length _ h0 (by omega) ⟨0, S0, false, by omega, rfl, G0, hnh, by omega, by rw [hnh]⟩
  rintro k nx s h ⟨i, S, b, hi, rfl, G, hS, hSn, hrun⟩ ih
  simp only [List.headD_cons, List.tail_cons]
  by_cases hlt : i < progs.length
  · have hc : decide ((i : Int) < (progs.length : Nat)) = true := by simp; exact hlt
    obtain ⟨k, rfl⟩ : ∃ k', k = k' + 1 := ⟨k - 1, by omega⟩
    obtain ⟨L, R, K⟩ := G.rep
    have e1 := R.t3
    rw [K.T] at e1
    have gsk : ∀ w r h, gd w skipV r h = some (.ret skipV h) := fun w r h => gd_skip w r h
    simp only [f9j12, f9j13, intB_lss, hc, bindR_ret, pureR_some, ifR_true, nonnil_q, padd_q, Nat.zero_add, pt, e1]
    rw [sweep_succ] at hrun
    by_cases h4 : S.now < 4000
    · have hc4 : decide ((S.now : Int) < 4000) = true := by simp; omega
      obtain ⟨h', e3, G'⟩ := G.step (j := i) (by omega) (by omega) n
      simp only [pt] at e3
      simp only [hc4, gd_tt, bindR_ret, e3, pickV_t, pureR_some]
      cases hd : hasDeed S i with
      | true =>
        rw [if_pos ⟨h4, hd⟩] at hrun
        simp only [ifR_true, bindR_ret, f9j14, pureR_some, intB_inc' (n := i) (by omega)]
        refine ih k _ _ (by omega) ⟨i + 1, _, true, by omega, rfl, G', by rw [step_nh]; exact hS, ?_, hrun⟩
        rw [step_now, if_pos hd]; omega
      | false =>
        rw [if_neg (by rintro ⟨_, h⟩; rw [hd] at h; simp at h)] at hrun
        rw [step_no hd] at G'
        simp only [ifR_false, bindR_ret, f9j14, pureR_some, intB_inc' (n := i) (by omega)]
        exact ih k _ _ (by omega) ⟨i + 1, _, b, by omega, rfl, G', hS, hSn, hrun⟩
    · have hc4 : decide ((S.now : Int) < 4000) = false := by simp; omega
      rw [if_neg (by rintro ⟨h, _⟩; exact h4 h)] at hrun
      simp only [hc4, gd_tf, bindR_ret, gsk, gd_skip, pickV_f, pureR_some, ifR_false, f9j14, intB_inc' (n := i) (by omega)]
      exact ih k _ _ (by omega) ⟨i + 1, _, b, by omega, rfl, G, hS, hSn, hrun⟩
  · have hc : decide ((i : Int) < (progs.length : Nat)) = false := by simp; omega
    have hk : k = 0 := by omega
    subst hk
    have h1 : sweepFrom 0 S b i = (S, b) := rfl
    rw [h1] at hrun
    simp only [f9j12, intB_lss, hc, bindR_ret, pureR_some, ifR_false]
    rw [← hrun] at cont
    exact cont h G

/-- The rounds. -/
theorem rounds_ok {v2 t8 : Value} {progs : List (List (Int × Int))} (A2 : RowsAt L0.inp v2 progs) (hp : progs.length < 1000) (n : Nat) (hn : 10000 < n) {h0 : Heap} {S0 : Sys}
    (G0 : Going L0 h0 S0) (hnh : S0.nh = progs.length) (hnow : S0.now ≤ 4000) (Q : Res → Prop)
    (cont : ∀ h, Going L0 h (rounds 5000 S0) → (rounds 5000 S0).nh = progs.length → Q (f9j5 (run (n + 4)) (n + 4) t8 (pt L0.T) h)) :
    Q (f9j4 (run (n + 4)) (n + 4) v2 t8 (pt L0.T) h0) := by
  simp only [f9j4, bindR_ret]
  refine iterK_rule (σ := List Value) _ (fun k s h => ∃ (S : Sys) (b : Bool), s = [.bool b] ∧ Going L0 h S ∧ S.nh = progs.length ∧ S.now ≤ 4000 ∧ (b = true → 4002 ≤ k + S.now ∧ rounds k S = rounds 5000 S0) ∧ (b = false → S = rounds 5000 S0))
    Q ?_ (n + 4) 5000 _ h0 (by omega) ⟨S0, true, rfl, G0, hnh, hnow, fun _ => ⟨by omega, rfl⟩, fun h => by simp at h⟩
  rintro k nx s h ⟨S, b, rfl, G, hS, hSn, ht, hf⟩ ih
  simp only [List.headD_cons]
  cases b with
  | true =>
    obtain ⟨h1, h2⟩ := ht rfl
    obtain ⟨k, rfl⟩ : ∃ k', k = k' + 1 := ⟨k - 1, by omega⟩
    simp only [f9j10, bindR_ret, ifR_true]
    refine sweep_ok A2 hp n (by omega) G hS hSn nx Q ?_
    intro h' G'
    have w := sweep_now S.nh S false 0
    unfold rounds at h2
    cases hb : (sweepFrom S.nh S false 0).2 with
    | true =>
      rw [if_pos hb] at h2
      have w2 := w.2.2 hb
      simp only [Bool.false_eq_true, false_or] at w2
      exact ih k _ _ (by omega) ⟨_, true, rfl, G', by rw [sweep_nh]; exact hS, w.2.1 hSn, fun _ => ⟨by omega, h2⟩, fun h => by simp at h⟩
    | false =>
      rw [if_neg (by rw [hb]; simp)] at h2
      exact ih 0 _ _ (by omega) ⟨_, false, rfl, G', by rw [sweep_nh]; exact hS, w.2.1 hSn, fun h => by simp at h, fun _ => h2⟩
  | false =>
    have := hf rfl
    subst this
    simp only [f9j10, bindR_ret, ifR_false]
    exact cont h G hS
end
end Go.Ha

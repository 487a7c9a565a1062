/-
  Hands: the model of the machine's state, and what a heap of the abstract machine says of it.
  Hands: reading and writing the fields, at a heap that says the model's state.
  Hands: what each small function does to the model's state.
  Hands: hand over hand: what each step does to the model's state.
  Hands: looked at twice: what each step does to the model's state.
  Hands: looked at twice: the check.
  Hands: those that mark: what each step does to the model's state.
  Hands: one step of a deed, as a function on the model's state.
  Hands: a hand's next step does what 'act' says.
  Hands: the table's fields, and the array of hands.
  Hands: a deed begins: its closures' cells.
-/
import Derived.Test.YtejokpfeepbfeaaAmShal
set_option linter.unusedSimpArgs false
set_option linter.unusedVariables false
set_option linter.unnecessarySimpa false
namespace Go.Ha
open Go.AM

/-- A bead of the list. -/
structure Nd where
  key : Int
  next : Option Nat
  mark : Bool
  lock : Bool

/-- Where in its deed a hand is. -/
inductive St where
  | l0 | l1 | l2
  | z0 | z1 | z2 | z3 | z4 | z5
  | m0 | m1 | m2 | m3
  deriving DecidableEq

structure Hd where
  prog : List (Int × Int)
  pos : Nat
  st : Option St
  p : Option Nat
  c : Option Nat
  is : Bool

structure Dn where
  who : Nat
  deed : Nat
  beg : Nat
  fin : Int
  is : Bool

structure Sys where
  algo : Int
  nodes : Nat → Nd
  nn : Nat
  hands : Nat → Hd
  nh : Nat
  now : Nat
  told : Nat → List Dn

def setF {α : Type} (f : Nat → α) (i : Nat) (v : α) : Nat → α := fun j => if j = i then v else f j

@[simp] theorem setF_same {α : Type} (f : Nat → α) (i : Nat) (v : α) : setF f i v i = v := by simp [setF]
theorem setF_ne {α : Type} (f : Nat → α) {i j : Nat} (v : α) (h : j ≠ i) : setF f i v j = f j := by simp [setF, h]

def Sys.setN (S : Sys) (i : Nat) (x : Nd) : Sys := { S with nodes := setF S.nodes i x }
def Sys.setH (S : Sys) (j : Nat) (x : Hd) : Sys := { S with hands := setF S.hands j x }
def Sys.add (S : Sys) (x : Nd) : Sys := { S with nodes := setF S.nodes S.nn x, nn := S.nn + 1 }

inductive Role where
  | inp | tab | ha | ta | node (i : Nat) | hand (j : Nat) | env | told (j : Nat) | junk
  deriving DecidableEq

/-- Where all lies. -/
structure Lay where
  T : Nat
  HA : Nat
  TA : Nat
  nb : Nat → Nat
  hb : Nat → Nat
  eb : Nat → Nat
  tb : Nat → Nat
  pv : Nat → Value
  inp : Nat → Option Blk
  role : Nat → Role

def q (b : Nat) : Value := .pointer (some ⟨b, 0, none⟩)
def qo (nb : Nat → Nat) : Option Nat → Value
  | none => .pointer none
  | some i => q (nb i)
def fv (f : Nat) (cs : List Nat) : Value := .func (.func f) #[] (cs.map q).toArray

/-- A hand's next step, over cells from e on. -/
def stV (e : Nat) : Option St → Value
  | none => .nilFunc
  | some .l0 => fv 45 [e, e + 1, e + 2]
  | some .l1 => fv 37 [e + 1, e + 3]
  | some .l2 => fv 39 [e + 1, e + 2]
  | some .z0 => fv 47 [e, e + 1, e + 3]
  | some .z1 => fv 48 [e + 1, e + 4]
  | some .z2 => fv 49 [e + 4, e + 1, e + 5]
  | some .z3 => fv 50 [e + 1, e + 6]
  | some .z4 => fv 51 [e + 1, e + 2, e + 7]
  | some .z5 => fv 52 [e + 1]
  | some .m0 => fv 54 [e, e + 1, e + 3]
  | some .m1 => fv 55 [e + 1, e + 6, e + 2, e + 4]
  | some .m2 => fv 56 [e, e + 1, e + 6, e + 5, e + 2]
  | some .m3 => fv 57 [e + 6, e + 1]

/-- The cells of a deed's closures. -/
def envC (T hb e : Nat) (algo : Int) : List Value :=
  if algo = 1 then [q T, q hb, stV e (some .l1), stV e (some .l2)]
  else if algo = 2 then [q T, q hb, stV e (some .z0), stV e (some .z1), stV e (some .z2), stV e (some .z3), stV e (some .z4), stV e (some .z5)]
  else [q T, q hb, stV e (some .m0), stV e (some .m1), stV e (some .m2), stV e (some .m3), fv 53 [e + 1]]

def ndC (nb : Nat → Nat) (x : Nd) : List Value := [.int .i64 x.key, qo nb x.next, .bool x.mark, .bool x.lock]
def hdC (pv : Value) (e : Nat) (vp vc : Value) (x : Hd) : List Value := [pv, .int .i64 x.pos, stV e x.st, vp, vc, .bool x.is]
def dnC (x : Dn) : List Value := [.int .i64 x.who, .int .i64 x.deed, .int .i64 x.beg, .int .i64 x.fin, .bool x.is]
def toldV (tb : Nat) (l : List Dn) : Value := match l with
  | [] => .slice none 0 0
  | _ => .slice (some ⟨tb, 0, none⟩) l.length l.length

/-- A block's row. -/
def rowOf : Blk → Option (List Value)
  | .cells c _ _ => some c
  | .ro c => some c
  | _ => none

/-- A hand's deeds lie where its slice says. -/
def ProgAt (inp : Nat → Option Blk) (v : Value) (l : List (Int × Int)) : Prop :=
  (l = [] ∧ ∃ b o c, v = .slice b o c ∧ o = 0) ∨
  ∃ b o c r, v = .slice (some ⟨b, o, none⟩) l.length c ∧ (inp b).bind rowOf = some r ∧ ∀ i k d, l[i]? = some (k, d) → r[o + i * 2]? = some (.int .i64 k) ∧ r[o + i * 2 + 1]? = some (.int .i64 d)

structure Rep (h : Heap) (S : Sys) (L : Lay) : Prop where
  tab : ∃ v, h.bs[L.T]? = some (.cells [.int .i64 S.algo, q (L.nb 0), v, .int .i64 S.now, .slice (some ⟨L.TA, 0, none⟩) S.nh S.nh] 0 false) ∧ (0 < S.nh → ∃ k, v = .slice (some ⟨L.HA, 0, none⟩) S.nh k)
  tabR : L.role L.T = .tab
  ha : 0 < S.nh → ∃ r, h.bs[L.HA]? = some (.cells r 1 false) ∧ ∀ j, j < S.nh → r[j]? = some (q (L.hb j))
  haR : 0 < S.nh → L.role L.HA = .ha
  ta : ∃ r, h.bs[L.TA]? = some (.cells r 0 false) ∧ ∀ j, j < S.nh → r[j]? = some (toldV (L.tb j) (S.told j))
  taR : L.role L.TA = .ta
  first : 0 < S.nn
  next : ∀ i, i < S.nn → ∀ k, (S.nodes i).next = some k → k < S.nn
  node : ∀ i, i < S.nn → h.bs[L.nb i]? = some (.cells (ndC L.nb (S.nodes i)) 0 false) ∧ L.role (L.nb i) = .node i
  hand : ∀ j, j < S.nh → ∃ vp vc, h.bs[L.hb j]? = some (.cells (hdC (L.pv j) (L.eb j) vp vc (S.hands j)) 0 false) ∧
    (∀ i, (S.hands j).p = some i → vp = q (L.nb i) ∧ i < S.nn) ∧ (∀ i, (S.hands j).c = some i → vc = q (L.nb i) ∧ i < S.nn)
  handR : ∀ j, j < S.nh → L.role (L.hb j) = .hand j
  env : ∀ j s, j < S.nh → (S.hands j).st = some s → ∀ k v, (envC L.T (L.hb j) (L.eb j) S.algo)[k]? = some v → h.bs[L.eb j + k]? = some (.cells [v] 0 false) ∧ L.role (L.eb j + k) = .env
  told : ∀ j, j < S.nh → S.told j ≠ [] → h.bs[L.tb j]? = some (.cells ((S.told j).flatMap dnC) 5 false) ∧ L.role (L.tb j) = .told j
  inp : ∀ b r, L.inp b = some r → h.bs[b]? = some r ∧ L.role b = .inp
  prog : ∀ j, j < S.nh → ProgAt L.inp (L.pv j) (S.hands j).prog

theorem upd_ne {h : Heap} {b b' : Nat} {x : Blk} (e : b' ≠ b) : (h.upd b x).bs[b']? = h.bs[b']? := by
  simp [Heap.upd, Ne.symm e]
theorem upd_eq {h : Heap} {b : Nat} {x y : Blk} (e : h.bs[b]? = some y) : (h.upd b x).bs[b]? = some x := by
  have := (List.getElem?_eq_some_iff.1 e).1
  simp [Heap.upd, this]
theorem push_old {h : Heap} {b : Nat} {x y : Blk} (e : h.bs[b]? = some y) : (h.push x).bs[b]? = some y := by
  have := (List.getElem?_eq_some_iff.1 e).1
  simp only [Heap.push]; rw [List.getElem?_append_left this]; exact e
theorem push_new {h : Heap} {x : Blk} : (h.push x).bs[h.len]? = some x := by simp [Heap.push, Heap.len]

section
variable {h : Heap} {S : Sys} {L : Lay}

/-- A store into a bead. -/
theorem Rep.setN (R : Rep h S L) {i : Nat} (hi : i < S.nn) (x : Nd) (hx : ∀ k, x.next = some k → k < S.nn) : Rep (h.upd (L.nb i) (.cells (ndC L.nb x) 0 false)) (S.setN i x) L := by
  obtain ⟨hn, hr⟩ := R.node i hi
  have ne : ∀ {b : Nat} {r : Role}, L.role b = r → r ≠ .node i → b ≠ L.nb i := fun hb h1 h2 => h1 (by rw [← hb, h2, hr])
  refine { tab := ?_, tabR := R.tabR, ha := ?_, haR := R.haR, ta := ?_, taR := R.taR, first := R.first, next := ?_, node := ?_, hand := ?_, handR := R.handR, env := ?_, told := ?_, inp := ?_, prog := R.prog }
  · obtain ⟨k, e, hk⟩ := R.tab; exact ⟨k, by rw [upd_ne (ne R.tabR (by simp))]; exact e, hk⟩
  · intro h0; obtain ⟨r, e, h2⟩ := R.ha h0; exact ⟨r, by rw [upd_ne (ne (R.haR h0) (by simp))]; exact e, h2⟩
  · obtain ⟨r, e, h2⟩ := R.ta; exact ⟨r, by rw [upd_ne (ne R.taR (by simp))]; exact e, h2⟩
  · intro j hj
    by_cases hji : j = i
    · subst hji; simpa [Sys.setN] using hx
    · simpa [Sys.setN, setF_ne _ _ hji] using R.next j hj
  · intro j hj
    by_cases hji : j = i
    · subst hji; exact ⟨by rw [upd_eq hn]; simp [Sys.setN], hr⟩
    · have h2 := R.node j hj
      refine ⟨?_, h2.2⟩
      rw [upd_ne (ne h2.2 (by simp [hji])), h2.1]
      simp [Sys.setN, setF_ne _ _ hji]
  · intro j hj; obtain ⟨vp, vc, e, h2⟩ := R.hand j hj; exact ⟨vp, vc, by rw [upd_ne (ne (R.handR j hj) (by simp))]; exact e, h2⟩
  · intro j s hj hs k v hk; have := R.env j s hj hs k v hk; exact ⟨by rw [upd_ne (ne this.2 (by simp))]; exact this.1, this.2⟩
  · intro j hj ht; have := R.told j hj ht; exact ⟨by rw [upd_ne (ne this.2 (by simp))]; exact this.1, this.2⟩
  · intro b r hb; have := R.inp b r hb; exact ⟨by rw [upd_ne (ne this.2 (by simp))]; exact this.1, this.2⟩

/-- A store into a hand: same deeds; a deed under way has its cells. -/
theorem Rep.setH' (R : Rep h S L) {j : Nat} (hj : j < S.nh) (x : Hd) (vp vc : Value) (hp : x.prog = (S.hands j).prog) (hst : ∀ s, x.st = some s → ∀ k v, (envC L.T (L.hb j) (L.eb j) S.algo)[k]? = some v → h.bs[L.eb j + k]? = some (.cells [v] 0 false) ∧ L.role (L.eb j + k) = .env)
    (hv : (∀ i, x.p = some i → vp = q (L.nb i) ∧ i < S.nn) ∧ (∀ i, x.c = some i → vc = q (L.nb i) ∧ i < S.nn)) :
    Rep (h.upd (L.hb j) (.cells (hdC (L.pv j) (L.eb j) vp vc x) 0 false)) (S.setH j x) L := by
  obtain ⟨vp0, vc0, hh, _⟩ := R.hand j hj
  have hr := R.handR j hj
  have ne : ∀ {b : Nat} {r : Role}, L.role b = r → r ≠ .hand j → b ≠ L.hb j := fun hb h1 h2 => h1 (by rw [← hb, h2, hr])
  refine { tab := ?_, tabR := R.tabR, ha := ?_, haR := R.haR, ta := ?_, taR := R.taR, first := R.first, next := R.next, node := ?_, hand := ?_, handR := R.handR, env := ?_, told := ?_, inp := ?_, prog := ?_ }
  · obtain ⟨k, e, hk⟩ := R.tab; exact ⟨k, by rw [upd_ne (ne R.tabR (by simp))]; exact e, hk⟩
  · intro h0; obtain ⟨r, e, h2⟩ := R.ha h0; exact ⟨r, by rw [upd_ne (ne (R.haR h0) (by simp))]; exact e, h2⟩
  · obtain ⟨r, e, h2⟩ := R.ta; exact ⟨r, by rw [upd_ne (ne R.taR (by simp))]; exact e, h2⟩
  · intro i hi; have h2 := R.node i hi; exact ⟨by rw [upd_ne (ne h2.2 (by simp))]; exact h2.1, h2.2⟩
  · intro k hk
    by_cases hkj : k = j
    · subst hkj; refine ⟨vp, vc, by rw [upd_eq hh]; simp [Sys.setH], ?_⟩
      simp only [Sys.setH, setF_same]
      exact hv
    · obtain ⟨wp, wc, e, h2⟩ := R.hand k hk
      refine ⟨wp, wc, ?_, ?_⟩
      · rw [upd_ne (ne (R.handR k hk) (by simp [hkj])), e]; simp [Sys.setH, setF_ne _ _ hkj]
      · simpa [Sys.setH, setF_ne _ _ hkj] using h2
  · intro k s hk hs m v hm
    have : h.bs[L.eb k + m]? = some (.cells [v] 0 false) ∧ L.role (L.eb k + m) = .env := by
      by_cases hkj : k = j
      · subst hkj
        simp only [Sys.setH, setF_same] at hs
        exact hst s hs m v hm
      · simp only [Sys.setH, setF_ne _ _ hkj] at hs; exact R.env k s hk hs m v hm
    exact ⟨by rw [upd_ne (ne this.2 (by simp))]; exact this.1, this.2⟩
  · intro k hk ht; have := R.told k hk ht; exact ⟨by rw [upd_ne (ne this.2 (by simp))]; exact this.1, this.2⟩
  · intro b r hb; have := R.inp b r hb; exact ⟨by rw [upd_ne (ne this.2 (by simp))]; exact this.1, this.2⟩
  · intro k hk
    by_cases hkj : k = j
    · subst hkj; simp only [Sys.setH, setF_same]; rw [hp]; exact R.prog k hk
    · simp only [Sys.setH, setF_ne _ _ hkj]; exact R.prog k hk

/-- A store into a hand: same deeds; a deed under way stays within the cells there are. -/
theorem Rep.setH (R : Rep h S L) {j : Nat} (hj : j < S.nh) (x : Hd) (vp vc : Value) (hp : x.prog = (S.hands j).prog) (hst : ∀ s, x.st = some s → (S.hands j).st ≠ none)
    (hv : (∀ i, x.p = some i → vp = q (L.nb i) ∧ i < S.nn) ∧ (∀ i, x.c = some i → vc = q (L.nb i) ∧ i < S.nn)) :
    Rep (h.upd (L.hb j) (.cells (hdC (L.pv j) (L.eb j) vp vc x) 0 false)) (S.setH j x) L :=
  R.setH' hj x vp vc hp (fun s hs k v hk => by
    obtain ⟨s', hs'⟩ := Option.ne_none_iff_exists'.1 (hst s hs)
    exact R.env j s' hj hs' k v hk) hv

/-- More blocks do no harm. -/
theorem Rep.ext {h' : Heap} (R : Rep h S L) (he : ∀ (b : Nat) (y : Blk), h.bs[b]? = some y → h'.bs[b]? = some y) : Rep h' S L where
  tab := by obtain ⟨k, e, hk⟩ := R.tab; exact ⟨k, he _ _ e, hk⟩
  tabR := R.tabR
  ha := fun h0 => by obtain ⟨r, e, h2⟩ := R.ha h0; exact ⟨r, he _ _ e, h2⟩
  haR := R.haR
  ta := by obtain ⟨r, e, h2⟩ := R.ta; exact ⟨r, he _ _ e, h2⟩
  taR := R.taR
  first := R.first
  next := R.next
  node := fun i hi => ⟨he _ _ (R.node i hi).1, (R.node i hi).2⟩
  hand := fun j hj => by obtain ⟨vp, vc, e, h2⟩ := R.hand j hj; exact ⟨vp, vc, he _ _ e, h2⟩
  handR := R.handR
  env := fun j s hj hs k v hk => ⟨he _ _ (R.env j s hj hs k v hk).1, (R.env j s hj hs k v hk).2⟩
  told := fun j hj ht => ⟨he _ _ (R.told j hj ht).1, (R.told j hj ht).2⟩
  inp := fun b r hb => ⟨he _ _ (R.inp b r hb).1, (R.inp b r hb).2⟩
  prog := R.prog

theorem Rep.push (R : Rep h S L) (x : Blk) : Rep (h.push x) S L := R.ext fun _ _ e => push_old e

theorem lt_len {b : Nat} {x : Blk} (e : h.bs[b]? = some x) : b < h.len := (List.getElem?_eq_some_iff.1 e).1

/-- The roles turned at blocks that were not there. -/
theorem Rep.role (R : Rep h S L) (role : Nat → Role) (he : ∀ b, b < h.len → role b = L.role b) : Rep h S { L with role := role } where
  tab := R.tab
  tabR := by obtain ⟨k, e, _⟩ := R.tab; exact (he _ (lt_len e)).trans R.tabR
  ha := R.ha
  haR := fun h0 => by obtain ⟨r, e, h2⟩ := R.ha h0; exact (he _ (lt_len e)).trans (R.haR h0)
  ta := R.ta
  taR := by obtain ⟨r, e, h2⟩ := R.ta; exact (he _ (lt_len e)).trans R.taR
  first := R.first
  next := R.next
  node := fun i hi => ⟨(R.node i hi).1, (he _ (lt_len (R.node i hi).1)).trans (R.node i hi).2⟩
  hand := R.hand
  handR := fun j hj => by obtain ⟨vp, vc, e, h2⟩ := R.hand j hj; exact (he _ (lt_len e)).trans (R.handR j hj)
  env := fun j s hj hs k v hk => ⟨(R.env j s hj hs k v hk).1, (he _ (lt_len (R.env j s hj hs k v hk).1)).trans (R.env j s hj hs k v hk).2⟩
  told := fun j hj ht => ⟨(R.told j hj ht).1, (he _ (lt_len (R.told j hj ht).1)).trans (R.told j hj ht).2⟩
  inp := fun b r hb => ⟨(R.inp b r hb).1, (he _ (lt_len (R.inp b r hb).1)).trans (R.inp b r hb).2⟩
  prog := R.prog

/-- The layout with a new bead at b. -/
def Lay.bead (L : Lay) (i b : Nat) : Lay := { L with nb := setF L.nb i b, role := setF L.role b (.node i) }

theorem qo_setF {nb : Nat → Nat} {n b : Nat} {o : Option Nat} (ho : ∀ k, o = some k → k < n) : qo (setF nb n b) o = qo nb o := by
  cases o with
  | none => rfl
  | some k => simp only [qo]; rw [setF_ne _ _ (by have := ho k rfl; omega)]

theorem ndC_setF {nb : Nat → Nat} {n b : Nat} {x : Nd} (ho : ∀ k, x.next = some k → k < n) : ndC (setF nb n b) x = ndC nb x := by simp [ndC, qo_setF ho]

/-- A new bead. -/
theorem Rep.add (R : Rep h S L) (x : Nd) (hx : ∀ k, x.next = some k → k < S.nn) : Rep (h.push (.cells (ndC L.nb x) 0 false)) (S.add x) (L.bead S.nn h.len) := by
  have R' := ((R.role (setF L.role h.len (.node S.nn)) fun b hb => setF_ne _ _ (by omega)).push (.cells (ndC L.nb x) 0 false))
  have hnb : ∀ i, i < S.nn → setF L.nb S.nn h.len i = L.nb i := fun i hi => setF_ne _ _ (by omega)
  refine { tab := ?_, tabR := R'.tabR, ha := R'.ha, haR := R'.haR, ta := R'.ta, taR := R'.taR, first := Nat.succ_pos _, next := ?_, node := ?_, hand := ?_, handR := R'.handR, env := R'.env, told := R'.told, inp := R'.inp, prog := R'.prog }
  · obtain ⟨k, e, hk⟩ := R'.tab; refine ⟨k, ?_, hk⟩; simp only [Lay.bead, hnb 0 R.first]; exact e
  · intro i hi k hk
    simp only [Sys.add] at hi hk ⊢
    by_cases hin : i = S.nn
    · subst hin; simp only [setF_same] at hk; have := hx k hk; omega
    · rw [setF_ne _ _ hin] at hk; have := R.next i (by omega) k hk; omega
  · intro i hi
    simp only [Sys.add, Lay.bead] at hi ⊢
    by_cases hin : i = S.nn
    · subst hin; simp only [setF_same]; exact ⟨by rw [push_new, ndC_setF hx], trivial⟩
    · have h2 := R'.node i (by omega)
      simp only [setF_ne _ _ hin]
      rw [ndC_setF (R.next i (by omega))]
      exact h2
  · intro j hj
    obtain ⟨vp, vc, e, h2⟩ := R'.hand j hj
    refine ⟨vp, vc, e, fun i hi => ?_, fun i hi => ?_⟩
    · obtain ⟨h3, h5⟩ := h2.1 i hi
      simp only [Lay.bead, Sys.add, hnb _ h5]
      exact ⟨h3, by omega⟩
    · obtain ⟨h3, h5⟩ := h2.2 i hi
      simp only [Lay.bead, Sys.add, hnb _ h5]
      exact ⟨h3, by omega⟩

end
end Go.Ha

namespace Go.Ha
open Go.AM

theorem bindR_ret (v : Value) (h : Heap) (k : Value → Heap → Res) : bindR (some (.ret v h)) k = k v h := Eq.trans rfl rfl
theorem noPan_ret (v : Value) (h : Heap) (k : Value → Heap → Res) : noPan (some (.ret v h)) k = k v h := Eq.trans rfl rfl
theorem guardR_true (r : Res) : guardR true r = r := Eq.trans rfl rfl
theorem ifR_true (x y : Res) : ifR (.bool true) x y = x := Eq.trans rfl rfl
theorem ifR_false (x y : Res) : ifR (.bool false) x y = y := Eq.trans rfl rfl
theorem gd_true (w : Bool) (r : Res) (h : Heap) : gd w (.bool true) r h = cond w r (some (.ret (.chan none) h)) := by cases w <;> rfl
theorem gd_false (w : Bool) (r : Res) (h : Heap) : gd w (.bool false) r h = cond w (some (.ret (.chan none) h)) r := by cases w <;> rfl
theorem gd_skip (w : Bool) (r : Res) (h : Heap) : gd w (.chan none) r h = some (.ret (.chan none) h) := Eq.trans rfl rfl
theorem agnG_true (w : Bool) (r : Bool) : agnG w (.bool true) r = cond w r true := by cases w <;> rfl
theorem agnG_false (w : Bool) (r : Bool) : agnG w (.bool false) r = cond w true r := by cases w <;> rfl
theorem pureR_some (v : Value) (h : Heap) : pureR (some v) h = some (.ret v h) := Eq.trans rfl rfl
theorem nonnil_q (b o : Nat) : nonnil (.pointer (some ⟨b, o, none⟩)) = some (.pointer (some ⟨b, o, none⟩)) := Eq.trans rfl rfl
theorem padd_q (n b o : Nat) : padd n (.pointer (some ⟨b, o, none⟩)) = some (.pointer (some ⟨b, o + n, none⟩)) := Eq.trans rfl rfl
theorem boolE_b (a b : Bool) : boolE (.bool a) (.bool b) = some (a == b) := Eq.trans rfl rfl
theorem eqNeq_eql (b : Bool) : eqNeq .eql (some b) = some (.bool b) := Eq.trans rfl rfl
theorem eqNeq_neq (b : Bool) : eqNeq .neq (some b) = some (.bool (!b)) := Eq.trans rfl rfl
theorem intB_eql (k : IntKind) (a b : Int) : intB .eql (.int k a) (.int k b) = some (.bool (a == b)) := by simp [intB, isShift, intV]
theorem intB_neq (k : IntKind) (a b : Int) : intB .neq (.int k a) (.int k b) = some (.bool (a != b)) := by simp [intB, isShift, intV]
theorem intB_lss (k : IntKind) (a b : Int) : intB .lss (.int k a) (.int k b) = some (.bool (decide (a < b))) := by simp [intB, isShift, intV]
theorem intB_leq (k : IntKind) (a b : Int) : intB .leq (.int k a) (.int k b) = some (.bool (decide (a ≤ b))) := by simp [intB, isShift, intV]
theorem intB_gtr (k : IntKind) (a b : Int) : intB .gtr (.int k a) (.int k b) = some (.bool (decide (a > b))) := by simp [intB, isShift, intV]
theorem intB_geq (k : IntKind) (a b : Int) : intB .geq (.int k a) (.int k b) = some (.bool (decide (a ≥ b))) := by simp [intB, isShift, intV]
theorem unV_not (b : Bool) : unV .not (.bool b) = some (.bool !b) := Eq.trans rfl rfl
theorem pickV_b (c : Bool) (a b : Value) : pickV (.bool c) a b = some (cond c a b) := Eq.trans rfl rfl
theorem callV_fv (cr : FuncId → List Value → Heap → Res) (h : Heap) (f : Nat) (cs : List Nat) (args : List Value) : callV cr h (fv f cs) args = cr f (args ++ cs.map q) h := by simp [callV, callee, fv]

section
variable {h : Heap} {S : Sys} {L : Lay}

theorem ldR_cells {b o : Nat} {c : List Value} {k : Nat} {s : Bool} {v : Value} (e : h.bs[b]? = some (.cells c k s)) (ho : c[o]? = some v) : ldR h (.pointer (some ⟨b, o, none⟩)) = some (.ret v h) := by
  simp [ldR, ld1, Heap.row, e, ho, pureR]
theorem ldR_ro {b o : Nat} {c : List Value} {v : Value} (e : h.bs[b]? = some (.ro c)) (ho : c[o]? = some v) : ldR h (.pointer (some ⟨b, o, none⟩)) = some (.ret v h) := by
  simp [ldR, ld1, Heap.row, e, ho, pureR]
theorem stR_cells {b o : Nat} {c : List Value} {k : Nat} {s : Bool} {v : Value} (e : h.bs[b]? = some (.cells c k s)) (ho : o < c.length) (hv : cellOk v = true) :
    stR h (.pointer (some ⟨b, o, none⟩)) v = some (.ret undef (h.upd b (.cells (c.set o v) k s))) := by
  have : Nat.ble (o + 1) c.length = true := by rw [Nat.ble_eq]; exact ho
  simp [stR, stL, e, this, cellsOk, hv, setL]

-- the hand's fields
theorem Rep.h0 (R : Rep h S L) {j : Nat} (hj : j < S.nh) : ldR h (.pointer (some ⟨L.hb j, 0, none⟩)) = some (.ret (L.pv j) h) := by
  obtain ⟨vp, vc, e, _⟩ := R.hand j hj; exact ldR_cells e rfl
theorem Rep.h1 (R : Rep h S L) {j : Nat} (hj : j < S.nh) : ldR h (.pointer (some ⟨L.hb j, 1, none⟩)) = some (.ret (.int .i64 (S.hands j).pos) h) := by
  obtain ⟨vp, vc, e, _⟩ := R.hand j hj; exact ldR_cells e rfl
theorem Rep.h2 (R : Rep h S L) {j : Nat} (hj : j < S.nh) : ldR h (.pointer (some ⟨L.hb j, 2, none⟩)) = some (.ret (stV (L.eb j) (S.hands j).st) h) := by
  obtain ⟨vp, vc, e, _⟩ := R.hand j hj; exact ldR_cells e rfl
theorem Rep.h3 (R : Rep h S L) {j i : Nat} (hj : j < S.nh) (hp : (S.hands j).p = some i) : ldR h (.pointer (some ⟨L.hb j, 3, none⟩)) = some (.ret (.pointer (some ⟨L.nb i, 0, none⟩)) h) := by
  obtain ⟨vp, vc, e, h1, _⟩ := R.hand j hj
  obtain ⟨rfl, _⟩ := h1 i hp
  exact ldR_cells e rfl
theorem Rep.h4 (R : Rep h S L) {j i : Nat} (hj : j < S.nh) (hp : (S.hands j).c = some i) : ldR h (.pointer (some ⟨L.hb j, 4, none⟩)) = some (.ret (.pointer (some ⟨L.nb i, 0, none⟩)) h) := by
  obtain ⟨vp, vc, e, _, h1⟩ := R.hand j hj
  obtain ⟨rfl, _⟩ := h1 i hp
  exact ldR_cells e rfl
theorem Rep.h5 (R : Rep h S L) {j : Nat} (hj : j < S.nh) : ldR h (.pointer (some ⟨L.hb j, 5, none⟩)) = some (.ret (.bool (S.hands j).is) h) := by
  obtain ⟨vp, vc, e, _⟩ := R.hand j hj; exact ldR_cells e rfl
theorem Rep.plt (R : Rep h S L) {j i : Nat} (hj : j < S.nh) (hp : (S.hands j).p = some i) : i < S.nn := by
  obtain ⟨vp, vc, e, h1, _⟩ := R.hand j hj; exact (h1 i hp).2
theorem Rep.clt (R : Rep h S L) {j i : Nat} (hj : j < S.nh) (hp : (S.hands j).c = some i) : i < S.nn := by
  obtain ⟨vp, vc, e, _, h1⟩ := R.hand j hj; exact (h1 i hp).2

-- a bead's fields
theorem Rep.n0 (R : Rep h S L) {i : Nat} (hi : i < S.nn) : ldR h (.pointer (some ⟨L.nb i, 0, none⟩)) = some (.ret (.int .i64 (S.nodes i).key) h) := ldR_cells (R.node i hi).1 rfl
theorem Rep.n1 (R : Rep h S L) {i k : Nat} (hi : i < S.nn) (hk : (S.nodes i).next = some k) : ldR h (.pointer (some ⟨L.nb i, 1, none⟩)) = some (.ret (.pointer (some ⟨L.nb k, 0, none⟩)) h) :=
  ldR_cells (R.node i hi).1 (by simp [ndC, hk, qo, q])
theorem Rep.n2 (R : Rep h S L) {i : Nat} (hi : i < S.nn) : ldR h (.pointer (some ⟨L.nb i, 2, none⟩)) = some (.ret (.bool (S.nodes i).mark) h) := ldR_cells (R.node i hi).1 rfl
theorem Rep.n3 (R : Rep h S L) {i : Nat} (hi : i < S.nn) : ldR h (.pointer (some ⟨L.nb i, 3, none⟩)) = some (.ret (.bool (S.nodes i).lock) h) := ldR_cells (R.node i hi).1 rfl

-- the table's
theorem Rep.t1 (R : Rep h S L) : ldR h (.pointer (some ⟨L.T, 1, none⟩)) = some (.ret (.pointer (some ⟨L.nb 0, 0, none⟩)) h) := by
  obtain ⟨k, e, _⟩ := R.tab; exact ldR_cells e rfl
theorem Rep.t0 (R : Rep h S L) : ldR h (.pointer (some ⟨L.T, 0, none⟩)) = some (.ret (.int .i64 S.algo) h) := by
  obtain ⟨k, e, _⟩ := R.tab; exact ldR_cells e rfl

-- stores
theorem Rep.sp (R : Rep h S L) {j i : Nat} (hj : j < S.nh) (hi : i < S.nn) : ∃ h', stR h (.pointer (some ⟨L.hb j, 3, none⟩)) (.pointer (some ⟨L.nb i, 0, none⟩)) = some (.ret undef h') ∧
    Rep h' (S.setH j { S.hands j with p := some i }) L := by
  obtain ⟨vp, vc, e, h1, h2⟩ := R.hand j hj
  refine ⟨_, stR_cells e (by simp [hdC]) rfl, ?_⟩
  exact R.setH hj { S.hands j with p := some i } (q (L.nb i)) vc rfl (fun s hs => by simp only at hs; rw [hs]; simp) ⟨fun k hk => by simp at hk; subst hk; exact ⟨rfl, hi⟩, h2⟩
theorem Rep.sc (R : Rep h S L) {j i : Nat} (hj : j < S.nh) (hi : i < S.nn) : ∃ h', stR h (.pointer (some ⟨L.hb j, 4, none⟩)) (.pointer (some ⟨L.nb i, 0, none⟩)) = some (.ret undef h') ∧
    Rep h' (S.setH j { S.hands j with c := some i }) L := by
  obtain ⟨vp, vc, e, h1, h2⟩ := R.hand j hj
  refine ⟨_, stR_cells e (by simp [hdC]) rfl, ?_⟩
  exact R.setH hj { S.hands j with c := some i } vp (q (L.nb i)) rfl (fun s hs => by simp only at hs; rw [hs]; simp) ⟨h1, fun k hk => by simp at hk; subst hk; exact ⟨rfl, hi⟩⟩
theorem Rep.sis (R : Rep h S L) {j : Nat} (hj : j < S.nh) (b : Bool) : ∃ h', stR h (.pointer (some ⟨L.hb j, 5, none⟩)) (.bool b) = some (.ret undef h') ∧
    Rep h' (S.setH j { S.hands j with is := b }) L := by
  obtain ⟨vp, vc, e, h1, h2⟩ := R.hand j hj
  refine ⟨_, stR_cells e (by simp [hdC]) rfl, ?_⟩
  exact R.setH hj { S.hands j with is := b } vp vc rfl (fun s hs => by simp only at hs; rw [hs]; simp) ⟨h1, h2⟩
theorem cellOk_stV (e : Nat) (s : Option St) : cellOk (stV e s) = true := by
  cases s with
  | none => rfl
  | some s => cases s <;> rfl
theorem Rep.sdo (R : Rep h S L) {j : Nat} (hj : j < S.nh) (s : St) (hs : (S.hands j).st ≠ none) : ∃ h', stR h (.pointer (some ⟨L.hb j, 2, none⟩)) (stV (L.eb j) (some s)) = some (.ret undef h') ∧
    Rep h' (S.setH j { S.hands j with st := some s }) L := by
  obtain ⟨vp, vc, e, h1, h2⟩ := R.hand j hj
  refine ⟨_, stR_cells e (by simp [hdC]) (cellOk_stV _ _), ?_⟩
  exact R.setH hj { S.hands j with st := some s } vp vc rfl (fun _ _ => hs) ⟨h1, h2⟩
theorem Rep.snil (R : Rep h S L) {j : Nat} (hj : j < S.nh) : ∃ h', stR h (.pointer (some ⟨L.hb j, 2, none⟩)) .nilFunc = some (.ret undef h') ∧
    Rep h' (S.setH j { S.hands j with st := none }) L := by
  obtain ⟨vp, vc, e, h1, h2⟩ := R.hand j hj
  refine ⟨_, stR_cells e (by simp [hdC]) rfl, ?_⟩
  exact R.setH hj { S.hands j with st := none } vp vc rfl (fun s hs => by simp at hs) ⟨h1, h2⟩
theorem Rep.spos (R : Rep h S L) {j : Nat} (hj : j < S.nh) (n : Nat) : ∃ h', stR h (.pointer (some ⟨L.hb j, 1, none⟩)) (.int .i64 n) = some (.ret undef h') ∧
    Rep h' (S.setH j { S.hands j with pos := n }) L := by
  obtain ⟨vp, vc, e, h1, h2⟩ := R.hand j hj
  refine ⟨_, stR_cells e (by simp [hdC]) rfl, ?_⟩
  exact R.setH hj { S.hands j with pos := n } vp vc rfl (fun s hs => by simp only at hs; rw [hs]; simp) ⟨h1, h2⟩
theorem Rep.snext (R : Rep h S L) {i k : Nat} (hi : i < S.nn) (hk : k < S.nn) : ∃ h', stR h (.pointer (some ⟨L.nb i, 1, none⟩)) (.pointer (some ⟨L.nb k, 0, none⟩)) = some (.ret undef h') ∧
    Rep h' (S.setN i { S.nodes i with next := some k }) L :=
  ⟨_, stR_cells (R.node i hi).1 (by simp [ndC]) rfl, R.setN hi { S.nodes i with next := some k } fun m hm => by simp at hm; omega⟩
theorem Rep.smark (R : Rep h S L) {i : Nat} (hi : i < S.nn) (b : Bool) : ∃ h', stR h (.pointer (some ⟨L.nb i, 2, none⟩)) (.bool b) = some (.ret undef h') ∧
    Rep h' (S.setN i { S.nodes i with mark := b }) L :=
  ⟨_, stR_cells (R.node i hi).1 (by simp [ndC]) rfl, R.setN hi { S.nodes i with mark := b } fun m hm => R.next i hi m hm⟩
theorem Rep.slock (R : Rep h S L) {i : Nat} (hi : i < S.nn) (b : Bool) : ∃ h', stR h (.pointer (some ⟨L.nb i, 3, none⟩)) (.bool b) = some (.ret undef h') ∧
    Rep h' (S.setN i { S.nodes i with lock := b }) L :=
  ⟨_, stR_cells (R.node i hi).1 (by simp [ndC]) rfl, R.setN hi { S.nodes i with lock := b } fun m hm => R.next i hi m hm⟩

-- a closure's cells
theorem Rep.e (R : Rep h S L) {j : Nat} {s : St} (hj : j < S.nh) (hs : (S.hands j).st = some s) (k : Nat) {v : Value} (hk : (envC L.T (L.hb j) (L.eb j) S.algo)[k]? = some v) :
    ldR h (.pointer (some ⟨L.eb j + k, 0, none⟩)) = some (.ret v h) := ldR_cells (R.env j s hj hs k v hk).1 rfl
theorem Rep.e1 (R : Rep h S L) {j : Nat} {s : St} (hj : j < S.nh) (hs : (S.hands j).st = some s) : ldR h (.pointer (some ⟨L.eb j + 1, 0, none⟩)) = some (.ret (.pointer (some ⟨L.hb j, 0, none⟩)) h) :=
  R.e hj hs 1 (by unfold envC; repeat (first | rfl | split))
theorem Rep.e0 (R : Rep h S L) {j : Nat} {s : St} (hj : j < S.nh) (hs : (S.hands j).st = some s) : ldR h (.pointer (some ⟨L.eb j, 0, none⟩)) = some (.ret (.pointer (some ⟨L.T, 0, none⟩)) h) :=
  R.e hj hs 0 (by unfold envC; repeat (first | rfl | split))

end
end Go.Ha

namespace Go.Ha
open Go.AM Go.Proofs.YtejokpfeepbfeaaAm

noncomputable abbrev run (n : Nat) : FuncId → List Value → Heap → Res := callR Go.Proofs.Try.prog cfg n
abbrev pt (b : Nat) : Value := .pointer (some ⟨b, 0, none⟩)

attribute [simp] bindR_ret noPan_ret guardR_true ifR_true ifR_false gd_true gd_false gd_skip agnG_true agnG_false pureR_some nonnil_q padd_q boolE_b eqNeq_eql eqNeq_neq
  intB_eql intB_neq intB_lss intB_leq intB_gtr intB_geq unV_not pickV_b callV_fv

def Sys.lockN (S : Sys) (i : Nat) (b : Bool) : Sys := S.setN i { S.nodes i with lock := b }
def Sys.markN (S : Sys) (i : Nat) (b : Bool) : Sys := S.setN i { S.nodes i with mark := b }
def Sys.nextN (S : Sys) (i k : Nat) : Sys := S.setN i { S.nodes i with next := some k }

section
variable {h : Heap} {S : Sys} {L : Lay}

theorem take_no (R : Rep h S L) {i : Nat} (hi : i < S.nn) (hl : (S.nodes i).lock = true) (n : Nat) : run (n + 1) 38 [pt (L.nb i)] h = some (.ret (.bool false) h) := by
  rw [run, callR_succ, eq38]
  simp [f38, R.n3 hi, hl, clean, tup]

theorem take_ok (R : Rep h S L) {i : Nat} (hi : i < S.nn) (hl : (S.nodes i).lock = false) (n : Nat) : ∃ h', run (n + 1) 38 [pt (L.nb i)] h = some (.ret (.bool true) h') ∧ Rep h' (S.lockN i true) L := by
  obtain ⟨h1, e1, R1⟩ := R.slock hi true
  refine ⟨h1, ?_, R1⟩
  rw [run, callR_succ, eq38]
  simp [f38, f38j1, R.n3 hi, hl, e1, clean, tup]

theorem free_ok (R : Rep h S L) {j p c : Nat} (hj : j < S.nh) (hp : (S.hands j).p = some p) (hc : (S.hands j).c = some c) (n : Nat) :
    ∃ h', run (n + 1) 44 [pt (L.hb j)] h = some (.ret (.tuple #[]) h') ∧ Rep h' ((S.lockN p false).lockN c false) L := by
  obtain ⟨h1, e1, R1⟩ := R.slock (R.plt hj hp) false
  obtain ⟨h2, e2, R2⟩ := R1.slock (i := c) (R.clt hj hc) false
  refine ⟨h2, ?_, R2⟩
  rw [run, callR_succ, eq44]
  simp [f44, R.h3 hj hp, R.h4 hj hc, e1, e2, tup]

theorem agn1_of {a v : Value} (e : ldR h a = some (.ret v h)) (hv : veq v v = true) : agn1 h a v = true := by
  unfold agn1
  unfold ldR pureR at e
  split at e
  · simp at e
  · rename_i u hu; simp at e; subst e; simp [hu, hv]
theorem veq_p (a : Option Addr) : veq (.pointer a) (.pointer a) = true := by simp [veq]
theorem veq_i (k : IntKind) (a : Int) : veq (.int k a) (.int k a) = true := by simp [veq]
theorem veq_b (a : Bool) : veq (.bool a) (.bool a) = true := by simp [veq]

theorem idxS_nat {size b o len c i : Nat} (hi : i < len) : idxS size (.slice (some ⟨b, o, none⟩) len c) (.int .i64 i) = some (.pointer (some ⟨b, o + i * size, none⟩)) := by
  have : inB (i : Int) len = true := by simp [inB, hi]
  simp [idxS, this]

theorem row_inp {inp : Nat → Option Blk} (I : ∀ b y, inp b = some y → h.bs[b]? = some y) {b : Nat} {r : List Value} (hb : (inp b).bind rowOf = some r) : h.row b = some r := by
  match hy : inp b with
  | none => rw [hy] at hb; simp at hb
  | some y =>
    rw [hy] at hb
    simp only [Option.bind_some] at hb
    have := I b y hy
    unfold Heap.row
    rw [this]
    cases y <;> simp_all [rowOf]
theorem ldR_inp {inp : Nat → Option Blk} (I : ∀ b y, inp b = some y → h.bs[b]? = some y) {b o : Nat} {r : List Value} {v : Value} (hb : (inp b).bind rowOf = some r) (ho : r[o]? = some v) :
    ldR h (.pointer (some ⟨b, o, none⟩)) = some (.ret v h) := by
  simp [ldR, ld1, row_inp I hb, ho, pureR]

theorem prog_at (R : Rep h S L) {j : Nat} (hj : j < S.nh) {kd k : Int} (hd : (S.hands j).prog[(S.hands j).pos]? = some (kd, k)) :
    ∃ b o len c, L.pv j = .slice (some ⟨b, o, none⟩) len c ∧ (S.hands j).pos < len ∧ ldR h (.pointer (some ⟨b, o + (S.hands j).pos * 2, none⟩)) = some (.ret (.int .i64 kd) h) ∧
      ldR h (.pointer (some ⟨b, o + (S.hands j).pos * 2 + 1, none⟩)) = some (.ret (.int .i64 k) h) := by
  rcases R.prog j hj with ⟨h1, _⟩ | ⟨b, o, c, r, h1, h2, h3⟩
  · rw [h1] at hd; simp at hd
  · have hlt := (List.getElem?_eq_some_iff.1 hd).1
    exact ⟨b, o, _, c, h1, hlt, ldR_inp (fun b y e => (R.inp b y e).1) h2 (h3 _ _ _ hd).1, ldR_inp (fun b y e => (R.inp b y e).1) h2 (h3 _ _ _ hd).2⟩

theorem key_ok (R : Rep h S L) {j : Nat} (hj : j < S.nh) {kd k : Int} (hd : (S.hands j).prog[(S.hands j).pos]? = some (kd, k)) (n : Nat) : run (n + 1) 40 [pt (L.hb j)] h = some (.ret (.int .i64 k) h) := by
  obtain ⟨b, o, len, c, h1, h2, h3, h4⟩ := prog_at R hj hd
  rw [run, callR_succ, eq40]
  simp [f40, R.h0 hj, R.h1 hj, h1, idxS_nat h2, h4, clean, tup]

theorem kind_ok (R : Rep h S L) {j : Nat} (hj : j < S.nh) {kd k : Int} (hd : (S.hands j).prog[(S.hands j).pos]? = some (kd, k)) (n : Nat) : run (n + 1) 42 [pt (L.hb j)] h = some (.ret (.int .i64 kd) h) := by
  obtain ⟨b, o, len, c, h1, h2, h3, h4⟩ := prog_at R hj hd
  rw [run, callR_succ, eq42]
  simp [f42, R.h0 hj, R.h1 hj, h1, idxS_nat h2, h3, clean, tup]

theorem setH_setH (S : Sys) (j : Nat) (x y : Hd) : (S.setH j x).setH j y = S.setH j y := by
  simp only [Sys.setH, Sys.mk.injEq, true_and, and_true]; funext i; simp only [setF]; split <;> rfl
@[simp] theorem hands_setH (S : Sys) (j : Nat) (x : Hd) : (S.setH j x).hands j = x := by simp [Sys.setH]
theorem next_lockN (S : Sys) (i k : Nat) (b : Bool) : ((S.lockN i b).nodes k).next = (S.nodes k).next := by
  simp only [Sys.lockN, Sys.setN, setF]; split
  · rename_i e; rw [e]
  · rfl

theorem begin_ok (R : Rep h S L) {j k : Nat} (hj : j < S.nh) (hk : (S.nodes 0).next = some k) (n : Nat) :
    ∃ h', run (n + 1) 46 [pt L.T, pt (L.hb j)] h = some (.ret (.tuple #[]) h') ∧ Rep h' (S.setH j { S.hands j with p := some 0, c := some k }) L := by
  obtain ⟨h1, e1, R1⟩ := R.sp (i := 0) hj R.first
  obtain ⟨h2, e2, R2⟩ := R1.sc (i := k) hj (R.next 0 R.first k hk)
  rw [setH_setH, hands_setH] at R2
  refine ⟨h2, ?_, R2⟩
  rw [run, callR_succ, eq46]
  simp [f46, R.t1, R.n1 R.first hk, e1, e2, tup]

theorem on_ok (R : Rep h S L) {j c k : Nat} (hj : j < S.nh) (hc : (S.hands j).c = some c) (hk : (S.nodes c).next = some k) (n : Nat) :
    ∃ h', run (n + 1) 41 [pt (L.hb j)] h = some (.ret (.tuple #[]) h') ∧ Rep h' (S.setH j { S.hands j with p := some c, c := some k }) L := by
  obtain ⟨h1, e1, R1⟩ := R.sp (i := c) hj (R.clt hj hc)
  obtain ⟨h2, e2, R2⟩ := R1.sc (i := k) hj (R.next c (R.clt hj hc) k hk)
  rw [setH_setH, hands_setH] at R2
  refine ⟨h2, ?_, R2⟩
  rw [run, callR_succ, eq41]
  simp [f41, R.h4 hj hc, R.n1 (R.clt hj hc) hk, e1, e2, tup]

theorem fill_nd (k : Int) (a : Option Addr) : (fillL [.int .i64 0, .pointer none, .bool false, .bool false] [(0, 1, .int .i64 k), (1, 1, .pointer a)]).map (fun c => Value.agg c.toArray) =
    some (.agg #[.int .i64 k, .pointer a, .bool false, .bool false]) := rfl
theorem box_nd (h : Heap) (k : Int) (a : Option Addr) (x y : Bool) : boxR 4 h (.agg #[.int .i64 k, .pointer a, .bool x, .bool y]) =
    some (.ret (pt h.len) (h.push (.cells [.int .i64 k, .pointer a, .bool x, .bool y] 0 false))) := rfl

theorem add_ok (R : Rep h S L) {j p c : Nat} (hj : j < S.nh) (hp : (S.hands j).p = some p) (hc : (S.hands j).c = some c) {kd k : Int} (hd : (S.hands j).prog[(S.hands j).pos]? = some (kd, k)) (n : Nat) :
    ∃ h', run (n + 2) 43 [pt (L.hb j)] h = some (.ret (.tuple #[]) h') ∧ Rep h' ((S.add ⟨k, some c, false, false⟩).nextN p S.nn) (L.bead S.nn h.len) := by
  have hplt := R.plt hj hp
  have R1 := R.add ⟨k, some c, false, false⟩ (fun m hm => by simp at hm; subst hm; exact R.clt hj hc)
  obtain ⟨h2, e2, R2⟩ := R1.snext (i := p) (k := S.nn) (by show p < S.nn + 1; omega) (Nat.lt_succ_self _)
  refine ⟨h2, ?_, R2⟩
  rw [run, callR_succ, eq43]
  have hnb : (L.bead S.nn h.len).nb p = L.nb p := setF_ne _ _ (by omega)
  have hnn : (L.bead S.nn h.len).nb S.nn = h.len := by simp [Lay.bead]
  rw [hnb, hnn] at e2
  have hnd : ndC L.nb ⟨k, some c, false, false⟩ = [.int .i64 k, pt (L.nb c), .bool false, .bool false] := rfl
  rw [hnd] at e2
  have hkey := key_ok R hj hd n
  have g1 := agn1_of (R.h3 hj hp) (veq_p _)
  have g2 := agn1_of (R.h4 hj hc) (veq_p _)
  simp [f43, R.h3 hj hp, R.h4 hj hc, hkey, g1, g2, fill_nd, box_nd, e2, tup, -Option.map_eq_map]

end
end Go.Ha

namespace Go.Ha
open Go.AM Go.Proofs.YtejokpfeepbfeaaAm

/-- The same layout but for beads and roles. -/
def Same (L L' : Lay) : Prop := ∃ nb role, L' = { L with nb := nb, role := role }
theorem Same.refl (L : Lay) : Same L L := ⟨_, _, rfl⟩
theorem Same.bead (L : Lay) (i b : Nat) : Same L (L.bead i b) := ⟨_, _, rfl⟩

/-- A call answers b and leads to the state S'. -/
def Does (L : Lay) (r : Res) (b : Bool) (S' : Sys) : Prop := ∃ h' L', r = some (.ret (.bool b) h') ∧ Rep h' S' L' ∧ Same L L'

section
variable {h : Heap} {S : Sys} {L : Lay}

theorem l0_no (R : Rep h S L) {j : Nat} (hj : j < S.nh) {s : St} (hs : (S.hands j).st = some s) (hl : (S.nodes 0).lock = true) (n : Nat) :
    Does L (run (n + 3) 45 [pt (L.eb j), pt (L.eb j + 1), pt (L.eb j + 2)] h) false S := by
  refine ⟨h, L, ?_, R, .refl _⟩
  have e1 := take_no R R.first hl (n + 1)
  rw [run, callR_succ, eq45]
  simp [f45, f45j1, R.e0 hj hs, R.t1, e1, clean, tup]

theorem l0_ok (R : Rep h S L) {j k : Nat} (hj : j < S.nh) {s : St} (hs : (S.hands j).st = some s) (ha : S.algo = 1) (hl : (S.nodes 0).lock = false) (hk : (S.nodes 0).next = some k) (n : Nat) :
    Does L (run (n + 3) 45 [pt (L.eb j), pt (L.eb j + 1), pt (L.eb j + 2)] h) false ((S.lockN 0 true).setH j { S.hands j with p := some 0, c := some k, st := some .l1 }) := by
  obtain ⟨h1, e1, R1⟩ := take_ok R R.first hl (n + 1)
  obtain ⟨h2, e2, R2⟩ := begin_ok R1 hj (k := k) (by rw [next_lockN]; exact hk) (n + 1)
  have hs2 : (((S.lockN 0 true).setH j { (S.lockN 0 true).hands j with p := some 0, c := some k }).hands j).st = some s := by rw [hands_setH]; exact hs
  obtain ⟨h3, e3, R3⟩ := R2.sdo hj .l1 (by rw [hs2]; simp)
  rw [setH_setH, hands_setH] at R3
  refine ⟨h3, L, ?_, R3, .refl _⟩
  have e4 := R2.e hj hs2 2 (v := stV (L.eb j) (some .l1)) (by have : S.algo = 1 := ha; simp [envC, Sys.setH, Sys.lockN, Sys.setN, this])
  rw [run, callR_succ, eq45]
  simp [f45, f45j1, R.e0 hj hs, R.t1, e1, R1.e0 hj hs, R1.e1 hj hs, e2, R2.e1 hj hs2, e4, e3, clean, tup]

theorem l1_no (R : Rep h S L) {j c : Nat} (hj : j < S.nh) {s : St} (hs : (S.hands j).st = some s) (hc : (S.hands j).c = some c) (hl : (S.nodes c).lock = true) (n : Nat) :
    Does L (run (n + 3) 37 [pt (L.eb j + 1), pt (L.eb j + 3)] h) false S := by
  refine ⟨h, L, ?_, R, .refl _⟩
  have e1 := take_no R (R.clt hj hc) hl (n + 1)
  rw [run, callR_succ, eq37]
  simp [f37, f37j1, R.e1 hj hs, R.h4 hj hc, e1, clean, tup]

theorem l1_ok (R : Rep h S L) {j c : Nat} (hj : j < S.nh) {s : St} (hs : (S.hands j).st = some s) (ha : S.algo = 1) (hc : (S.hands j).c = some c) (hl : (S.nodes c).lock = false) (n : Nat) :
    Does L (run (n + 3) 37 [pt (L.eb j + 1), pt (L.eb j + 3)] h) false ((S.lockN c true).setH j { S.hands j with st := some .l2 }) := by
  obtain ⟨h1, e1, R1⟩ := take_ok R (R.clt hj hc) hl (n + 1)
  obtain ⟨h3, e3, R3⟩ := R1.sdo hj .l2 (by show (S.hands j).st ≠ none; rw [hs]; simp)
  refine ⟨h3, L, ?_, R3, .refl _⟩
  have e4 := R1.e hj hs 3 (v := stV (L.eb j) (some .l2)) (by have : S.algo = 1 := ha; simp [envC, Sys.lockN, Sys.setN, this])
  rw [run, callR_succ, eq37]
  simp [f37, f37j1, R.e1 hj hs, R.h4 hj hc, e1, R1.e1 hj hs, e4, e3, clean, tup]

theorem l2_on (R : Rep h S L) {j p c m : Nat} {kd k : Int} (hj : j < S.nh) {s : St} (hs : (S.hands j).st = some s) (ha : S.algo = 1) (hp : (S.hands j).p = some p) (hc : (S.hands j).c = some c)
    (hd : (S.hands j).prog[(S.hands j).pos]? = some (kd, k)) (hlt : (S.nodes c).key < k) (hm : (S.nodes c).next = some m) (n : Nat) :
    Does L (run (n + 3) 39 [pt (L.eb j + 1), pt (L.eb j + 2)] h) false ((S.lockN p false).setH j { S.hands j with p := some c, c := some m, st := some .l1 }) := by
  obtain ⟨h1, e1, R1⟩ := R.slock (R.plt hj hp) false
  obtain ⟨h2, e2, R2⟩ := on_ok R1 hj (c := c) (k := m) hc (by rw [← hm]; exact next_lockN S p c false) (n + 1)
  have hs2 : ((((S.setN p { S.nodes p with lock := false }).setH j { (S.setN p { S.nodes p with lock := false }).hands j with p := some c, c := some m })).hands j).st = some s := by rw [hands_setH]; exact hs
  obtain ⟨h3, e3, R3⟩ := R2.sdo hj .l1 (by rw [hs2]; simp)
  rw [setH_setH, hands_setH] at R3
  refine ⟨h3, L, ?_, R3, .refl _⟩
  have e4 := R2.e hj hs2 2 (v := stV (L.eb j) (some .l1)) (by have : S.algo = 1 := ha; simp [envC, Sys.setH, Sys.setN, this])
  have hkey := key_ok R hj hd (n + 1)
  have g1 := agn1_of (R.e1 hj hs) (veq_p _)
  have g2 := agn1_of (R.h4 hj hc) (veq_p _)
  have g3 := agn1_of (R.n0 (R.clt hj hc)) (veq_i _ _)
  rw [run, callR_succ, eq39]
  simp [f39, R.e1 hj hs, R.h3 hj hp, R.h4 hj hc, R.n0 (R.clt hj hc), hkey, g1, g2, g3, hlt, e1, R1.e1 hj hs, e2, R2.e1 hj hs2, e4, e3, clean, tup]

/-- The last step: what was told, and both let go. -/
theorem l2_end (R : Rep h S L) {j p c : Nat} {kd k : Int} (hj : j < S.nh) {s : St} (hs : (S.hands j).st = some s) (hp : (S.hands j).p = some p) (hc : (S.hands j).c = some c)
    (hd : (S.hands j).prog[(S.hands j).pos]? = some (kd, k)) (hge : ¬ (S.nodes c).key < k) (hm : kd = 2 → (S.nodes c).key = k → ∃ m, (S.nodes c).next = some m) (n : Nat) :
    Does L (run (n + 3) 39 [pt (L.eb j + 1), pt (L.eb j + 2)] h) true
      (let is := ((S.nodes c).key == k) == (kd != 1)
       let S1 := S.setH j { S.hands j with is := is }
       let S2 := if kd = 1 ∧ is = true then (S1.add ⟨k, some c, false, false⟩).nextN p S.nn else if kd = 2 ∧ is = true then (S1.setN p { S.nodes p with next := (S.nodes c).next }).markN c true else S1
       (S2.lockN p false).lockN c false) := by
  obtain ⟨is, his⟩ : ∃ is, is = (((S.nodes c).key == k) == (kd != 1)) := ⟨_, rfl⟩
  obtain ⟨h1, e1, R1⟩ := R.sis hj is
  have hp1 : ((S.setH j { S.hands j with is := is }).hands j).p = some p := by rw [hands_setH]; exact hp
  have hc1 : ((S.setH j { S.hands j with is := is }).hands j).c = some c := by rw [hands_setH]; exact hc
  have hs1 : ((S.setH j { S.hands j with is := is }).hands j).st = some s := by rw [hands_setH]; exact hs
  have hd1 : ((S.setH j { S.hands j with is := is }).hands j).prog[((S.setH j { S.hands j with is := is }).hands j).pos]? = some (kd, k) := by rw [hands_setH]; exact hd
  have hi1 : ldR h1 (.pointer (some ⟨L.hb j, 5, none⟩)) = some (.ret (.bool is) h1) := by have := R1.h5 hj; rw [hands_setH] at this; exact this
  have hkey : run (n + 2) 40 [pt (L.hb j)] h = _ := key_ok R hj hd (n + 1)
  have hkind : run (n + 2) 42 [pt (L.hb j)] h = _ := kind_ok R hj hd (n + 1)
  have hkind1 : run (n + 2) 42 [pt (L.hb j)] h1 = _ := kind_ok R1 hj hd1 (n + 1)
  have g1 := agn1_of (R.e1 hj hs) (veq_p _)
  have g2 := agn1_of (R.h4 hj hc) (veq_p _)
  have g3 := agn1_of (R.n0 (R.clt hj hc)) (veq_i _ _)
  have hlt : decide ((S.nodes c).key < k) = false := decide_eq_false hge
  rw [← his]
  simp only
  by_cases h1c : kd = 1 ∧ is = true
  · rw [if_pos h1c]
    obtain ⟨hk1, hit⟩ := h1c
    subst hit
    obtain ⟨h2, e2, R2⟩ := add_ok R1 hj hp1 hc1 hd1 n
    obtain ⟨h3, e3, R3⟩ := free_ok R2 hj hp1 hc1 (n + 1)
    have e3 : run (n + 2) 44 [pt (L.hb j)] h2 = some (.ret (.tuple #[]) h3) := e3
    have e4 : ldR h2 (.pointer (some ⟨L.eb j + 1, 0, none⟩)) = some (.ret (pt (L.hb j)) h2) := R2.e1 hj hs1
    refine ⟨h3, _, ?_, R3, .bead _ _ _⟩
    rw [run, callR_succ, eq39]
    have b1 : (kd == 1) = true := by simp [hk1]
    simp only [f39, f39j1, f39j2, bindR_ret, noPan_ret, guardR_true, ifR_true, ifR_false, gd_true, gd_false, gd_skip, cond_true, cond_false, pureR_some, nonnil_q, padd_q, Nat.zero_add, boolE_b, eqNeq_eql, eqNeq_neq, intB_eql, intB_neq, intB_lss, unV_not, pickV_b, Bool.and_true, Bool.true_and, Option.bind_some, clean, tup, R.e1 hj hs, R.h4 hj hc, R.n0 (R.clt hj hc), hkey, hkind, g1, g2, g3, hlt, ← his, e1, hi1, R1.e1 hj hs1, hkind1, b1, e2, e3, e4]
  · rw [if_neg h1c]
    by_cases h2c : kd = 2 ∧ is = true
    · rw [if_pos h2c]
      obtain ⟨hk2, hit⟩ := h2c
      subst hit
      have hkey2 : (S.nodes c).key = k := by
        have h4 : (kd != 1) = true := by simp [hk2]
        rw [h4] at his
        simpa using his
      obtain ⟨m, hm⟩ := hm hk2 hkey2
      have hplt := R.plt hj hp
      have hclt := R.clt hj hc
      obtain ⟨h2, e2, R2⟩ := R1.snext (i := p) (k := m) hplt (R.next c hclt m hm)
      obtain ⟨h3, e3, R3⟩ := R2.smark (i := c) hclt true
      obtain ⟨h4, e4, R4⟩ := free_ok R3 hj hp1 hc1 (n + 1)
      have e5 : ldR h3 (.pointer (some ⟨L.eb j + 1, 0, none⟩)) = some (.ret (pt (L.hb j)) h3) := R3.e1 hj hs1
      have e6 : ldR h1 (.pointer (some ⟨L.nb c, 1, none⟩)) = _ := R1.n1 hclt hm
      rw [hm]
      refine ⟨h4, L, ?_, R4, .refl _⟩
      rw [run, callR_succ, eq39]
      have b1 : (kd == 1) = false := by simp [hk2]
      have b2 : (kd == 2) = true := by simp [hk2]
      simp only [f39, f39j1, f39j2, bindR_ret, noPan_ret, guardR_true, ifR_true, ifR_false, gd_true, gd_false, gd_skip, cond_true, cond_false, pureR_some, nonnil_q, padd_q, Nat.zero_add, boolE_b, eqNeq_eql, eqNeq_neq, intB_eql, intB_neq, intB_lss, unV_not, pickV_b, Bool.and_true, Bool.true_and, Option.bind_some, clean, tup, R.e1 hj hs, R.h4 hj hc, R.n0 (R.clt hj hc), hkey, hkind, g1, g2, g3, hlt, ← his, e1, hi1, R1.e1 hj hs1, hkind1, b1, b2, R1.h3 hj hp1, R1.h4 hj hc1, e6, e2, e3, e4, e5]
    · rw [if_neg h2c]
      obtain ⟨h4, e4, R4⟩ := free_ok R1 hj hp1 hc1 (n + 1)
      refine ⟨h4, L, ?_, R4, .refl _⟩
      rw [run, callR_succ, eq39]
      cases is with
      | true =>
        have b1 : (kd == 1) = false := by simp; exact fun e => h1c ⟨e, rfl⟩
        have b2 : (kd == 2) = false := by simp; exact fun e => h2c ⟨e, rfl⟩
        simp only [f39, f39j1, f39j2, bindR_ret, noPan_ret, guardR_true, ifR_true, ifR_false, gd_true, gd_false, gd_skip, cond_true, cond_false, pureR_some, nonnil_q, padd_q, Nat.zero_add, boolE_b, eqNeq_eql, eqNeq_neq, intB_eql, intB_neq, intB_lss, unV_not, pickV_b, Bool.and_true, Bool.true_and, Option.bind_some, clean, tup, R.e1 hj hs, R.h4 hj hc, R.n0 (R.clt hj hc), hkey, hkind, g1, g2, g3, hlt, ← his, e1, R1.e1 hj hs1, hkind1, b1, b2, e4]
      | false =>
        cases b1 : (kd == 1) <;> cases b2 : (kd == 2) <;>
          simp only [f39, f39j1, f39j2, bindR_ret, noPan_ret, guardR_true, ifR_true, ifR_false, gd_true, gd_false, gd_skip, cond_true, cond_false, pureR_some, nonnil_q, padd_q, Nat.zero_add, boolE_b, eqNeq_eql, eqNeq_neq, intB_eql, intB_neq, intB_lss, unV_not, pickV_b, Bool.and_true, Bool.true_and, Option.bind_some, clean, tup, R.e1 hj hs, R.h4 hj hc, R.n0 (R.clt hj hc), hkey, hkind, g1, g2, g3, hlt, ← his, e1, hi1, R1.e1 hj hs1, hkind1, b1, b2, e4]

end
end Go.Ha

namespace Go.Ha
open Go.AM Go.Proofs.YtejokpfeepbfeaaAm

section
variable {h : Heap} {S : Sys} {L : Lay}

theorem nb_inj (R : Rep h S L) {i k : Nat} (hi : i < S.nn) (hk : k < S.nn) (e : L.nb i = L.nb k) : i = k := by
  have h1 := (R.node i hi).2
  rw [e, (R.node k hk).2] at h1
  simpa using h1.symm

theorem ptrE_nb (R : Rep h S L) {i k : Nat} (hi : i < S.nn) (hk : k < S.nn) : ptrE h (.pointer (some ⟨L.nb i, 0, none⟩)) (.pointer (some ⟨L.nb k, 0, none⟩)) = some (i == k) := by
  have p1 : plainRow h (L.nb i) = true := by simp [plainRow, (R.node i hi).1]
  have p2 : plainRow h (L.nb k) = true := by simp [plainRow, (R.node k hk).1]
  simp only [ptrE, eqP, p1, p2, Bool.and_self, cond_true]
  by_cases e : i = k
  · subst e; simp [Nat.beq_refl]
  · have : Nat.beq (L.nb i) (L.nb k) = false := by
      cases hb : Nat.beq (L.nb i) (L.nb k) with
      | false => rfl
      | true => exact absurd (nb_inj R hi hk (Nat.eq_of_beq_eq_true hb)) e
    simp [this, e]

theorem z0_ok (R : Rep h S L) {j k : Nat} (hj : j < S.nh) {s : St} (hs : (S.hands j).st = some s) (ha : S.algo = 2) (hk : (S.nodes 0).next = some k) (n : Nat) :
    Does L (run (n + 3) 47 [pt (L.eb j), pt (L.eb j + 1), pt (L.eb j + 3)] h) false (S.setH j { S.hands j with p := some 0, c := some k, st := some .z1 }) := by
  obtain ⟨h2, e2, R2⟩ := begin_ok R hj (k := k) hk (n + 1)
  have e2 : run (n + 2) 46 [pt L.T, pt (L.hb j)] h = _ := e2
  have hs2 : ((S.setH j { S.hands j with p := some 0, c := some k }).hands j).st = some s := by rw [hands_setH]; exact hs
  obtain ⟨h3, e3, R3⟩ := R2.sdo hj .z1 (by rw [hs2]; simp)
  rw [setH_setH, hands_setH] at R3
  refine ⟨h3, L, ?_, R3, .refl _⟩
  have e4 := R2.e hj hs2 3 (v := stV (L.eb j) (some .z1)) (by have : S.algo = 2 := ha; simp [envC, Sys.setH, this])
  rw [run, callR_succ, eq47]
  simp only [f47, bindR_ret, noPan_ret, guardR_true, ifR_true, ifR_false, gd_true, gd_false, gd_skip, cond_true, cond_false, pureR_some, nonnil_q, padd_q, Nat.zero_add, boolE_b, eqNeq_eql, eqNeq_neq, intB_eql, intB_neq, intB_lss, unV_not, pickV_b, Bool.and_true, Bool.true_and, Bool.not_true, Bool.not_false, Option.bind_some, clean, tup, R.e0 hj hs, R.e1 hj hs, e2, R2.e1 hj hs2, e4, e3]

/-- 'first': it waits for its p. -/
theorem z2_no (R : Rep h S L) {j p : Nat} (hj : j < S.nh) {s : St} (hs : (S.hands j).st = some s) (ha : S.algo = 2) (hp : (S.hands j).p = some p) (hl : (S.nodes p).lock = true) (n : Nat) :
    Does L (run (n + 2) 49 [pt (L.eb j + 4), pt (L.eb j + 1), pt (L.eb j + 5)] h) false (S.setH j { S.hands j with st := some .z2 }) := by
  obtain ⟨h1, e1, R1⟩ := R.sdo hj .z2 (by rw [hs]; simp)
  have hs1 : ((S.setH j { S.hands j with st := some .z2 }).hands j).st = some .z2 := by rw [hands_setH]
  have hp1 : ((S.setH j { S.hands j with st := some .z2 }).hands j).p = some p := by rw [hands_setH]; exact hp
  refine ⟨h1, L, ?_, R1, .refl _⟩
  have e4 := R.e hj hs 4 (v := stV (L.eb j) (some .z2)) (by simp [envC, ha])
  have e5 := take_no R1 (R1.plt hj hp1) hl n
  rw [run, callR_succ, eq49]
  simp only [f49, f49j1, bindR_ret, noPan_ret, guardR_true, ifR_true, ifR_false, gd_true, gd_false, gd_skip, cond_true, cond_false, pureR_some, nonnil_q, padd_q, Nat.zero_add, boolE_b, eqNeq_eql, eqNeq_neq, intB_eql, intB_neq, intB_lss, unV_not, pickV_b, Bool.and_true, Bool.true_and, Bool.not_true, Bool.not_false, Option.bind_some, clean, tup, R.e1 hj hs, e4, e1, R1.e1 hj hs1, R1.h3 hj hp1, e5]

theorem z2_ok (R : Rep h S L) {j p : Nat} (hj : j < S.nh) {s : St} (hs : (S.hands j).st = some s) (ha : S.algo = 2) (hp : (S.hands j).p = some p) (hl : (S.nodes p).lock = false) (n : Nat) :
    Does L (run (n + 2) 49 [pt (L.eb j + 4), pt (L.eb j + 1), pt (L.eb j + 5)] h) false ((S.lockN p true).setH j { S.hands j with st := some .z3 }) := by
  obtain ⟨h1, e1, R1⟩ := R.sdo hj .z2 (by rw [hs]; simp)
  have hs1 : ((S.setH j { S.hands j with st := some .z2 }).hands j).st = some .z2 := by rw [hands_setH]
  have hp1 : ((S.setH j { S.hands j with st := some .z2 }).hands j).p = some p := by rw [hands_setH]; exact hp
  have e4 := R.e hj hs 4 (v := stV (L.eb j) (some .z2)) (by simp [envC, ha])
  obtain ⟨h2, e2, R2⟩ := take_ok R1 (R1.plt hj hp1) hl n
  obtain ⟨h3, e3, R3⟩ := R2.sdo hj .z3 (by show ((S.setH j { S.hands j with st := some .z2 }).hands j).st ≠ none; rw [hs1]; simp)
  have e5 := R2.e hj hs1 5 (v := stV (L.eb j) (some .z3)) (by have : S.algo = 2 := ha; simp [envC, Sys.setH, Sys.lockN, Sys.setN, this])
  have e6 : ((S.setH j { S.hands j with st := some .z2 }).lockN p true).setH j { ((S.setH j { S.hands j with st := some .z2 }).lockN p true).hands j with st := some .z3 } =
      (S.lockN p true).setH j { S.hands j with st := some .z3 } := by
    have : ((S.setH j { S.hands j with st := some .z2 }).lockN p true).hands j = { S.hands j with st := some .z2 } := hands_setH _ _ _
    rw [this]; exact setH_setH (S.lockN p true) j _ _
  rw [e6] at R3
  refine ⟨h3, L, ?_, R3, .refl _⟩
  rw [run, callR_succ, eq49]
  simp only [f49, f49j1, bindR_ret, noPan_ret, guardR_true, ifR_true, ifR_false, gd_true, gd_false, gd_skip, cond_true, cond_false, pureR_some, nonnil_q, padd_q, Nat.zero_add, boolE_b, eqNeq_eql, eqNeq_neq, intB_eql, intB_neq, intB_lss, unV_not, pickV_b, Bool.and_true, Bool.true_and, Bool.not_true, Bool.not_false, Option.bind_some, clean, tup, R.e1 hj hs, e4, e1, R1.e1 hj hs1, R1.h3 hj hp1, e2, R2.e1 hj hs1, e5, e3]

theorem z3_no (R : Rep h S L) {j c : Nat} (hj : j < S.nh) {s : St} (hs : (S.hands j).st = some s) (hc : (S.hands j).c = some c) (hl : (S.nodes c).lock = true) (n : Nat) :
    Does L (run (n + 3) 50 [pt (L.eb j + 1), pt (L.eb j + 6)] h) false S := by
  refine ⟨h, L, ?_, R, .refl _⟩
  have e1 : run (n + 2) 38 [pt (L.nb c)] h = _ := take_no R (R.clt hj hc) hl (n + 1)
  rw [run, callR_succ, eq50]
  simp only [f50, f50j1, bindR_ret, noPan_ret, guardR_true, ifR_true, ifR_false, gd_true, gd_false, gd_skip, cond_true, cond_false, pureR_some, nonnil_q, padd_q, Nat.zero_add, boolE_b, eqNeq_eql, eqNeq_neq, intB_eql, intB_neq, intB_lss, unV_not, pickV_b, Bool.and_true, Bool.true_and, Bool.not_true, Bool.not_false, Option.bind_some, clean, tup, R.e1 hj hs, R.h4 hj hc, e1]

theorem z3_ok (R : Rep h S L) {j c : Nat} (hj : j < S.nh) {s : St} (hs : (S.hands j).st = some s) (ha : S.algo = 2) (hc : (S.hands j).c = some c) (hl : (S.nodes c).lock = false) (n : Nat) :
    Does L (run (n + 3) 50 [pt (L.eb j + 1), pt (L.eb j + 6)] h) false ((S.lockN c true).setH j { S.hands j with st := some .z4 }) := by
  obtain ⟨h1, e1, R1⟩ := take_ok R (R.clt hj hc) hl (n + 1)
  have e1 : run (n + 2) 38 [pt (L.nb c)] h = _ := e1
  obtain ⟨h3, e3, R3⟩ := R1.sdo hj .z4 (by show (S.hands j).st ≠ none; rw [hs]; simp)
  refine ⟨h3, L, ?_, R3, .refl _⟩
  have e4 := R1.e hj hs 6 (v := stV (L.eb j) (some .z4)) (by have : S.algo = 2 := ha; simp [envC, Sys.lockN, Sys.setN, this])
  rw [run, callR_succ, eq50]
  simp only [f50, f50j1, bindR_ret, noPan_ret, guardR_true, ifR_true, ifR_false, gd_true, gd_false, gd_skip, cond_true, cond_false, pureR_some, nonnil_q, padd_q, Nat.zero_add, boolE_b, eqNeq_eql, eqNeq_neq, intB_eql, intB_neq, intB_lss, unV_not, pickV_b, Bool.and_true, Bool.true_and, Bool.not_true, Bool.not_false, Option.bind_some, clean, tup, R.e1 hj hs, R.h4 hj hc, e1, R1.e1 hj hs, e4, e3]

theorem z1_on (R : Rep h S L) {j c m : Nat} {kd k : Int} (hj : j < S.nh) {s : St} (hs : (S.hands j).st = some s) (hc : (S.hands j).c = some c)
    (hd : (S.hands j).prog[(S.hands j).pos]? = some (kd, k)) (hlt : (S.nodes c).key < k) (hm : (S.nodes c).next = some m) (n : Nat) :
    Does L (run (n + 3) 48 [pt (L.eb j + 1), pt (L.eb j + 4)] h) false (S.setH j { S.hands j with p := some c, c := some m }) := by
  obtain ⟨h2, e2, R2⟩ := on_ok R hj (c := c) (k := m) hc hm (n + 1)
  have e2 : run (n + 2) 41 [pt (L.hb j)] h = _ := e2
  have hkey : run (n + 2) 40 [pt (L.hb j)] h = _ := key_ok R hj hd (n + 1)
  have g1 := agn1_of (R.e1 hj hs) (veq_p _)
  have g2 := agn1_of (R.h4 hj hc) (veq_p _)
  have g3 := agn1_of (R.n0 (R.clt hj hc)) (veq_i _ _)
  have hlt : decide ((S.nodes c).key < k) = true := decide_eq_true hlt
  refine ⟨h2, L, ?_, R2, .refl _⟩
  rw [run, callR_succ, eq48]
  simp only [f48, f48j1, bindR_ret, noPan_ret, guardR_true, ifR_true, ifR_false, gd_true, gd_false, gd_skip, cond_true, cond_false, pureR_some, nonnil_q, padd_q, Nat.zero_add, boolE_b, eqNeq_eql, eqNeq_neq, intB_eql, intB_neq, intB_lss, unV_not, pickV_b, Bool.and_true, Bool.true_and, Bool.not_true, Bool.not_false, Option.bind_some, clean, tup, R.e1 hj hs, R.h4 hj hc, R.n0 (R.clt hj hc), hkey, g1, g2, g3, hlt, e2]

theorem z1_has (R : Rep h S L) {j c : Nat} {k : Int} (hj : j < S.nh) {s : St} (hs : (S.hands j).st = some s) (hc : (S.hands j).c = some c)
    (hd : (S.hands j).prog[(S.hands j).pos]? = some (3, k)) (hge : ¬ (S.nodes c).key < k) (n : Nat) :
    Does L (run (n + 3) 48 [pt (L.eb j + 1), pt (L.eb j + 4)] h) true (S.setH j { S.hands j with is := (S.nodes c).key == k && !(S.nodes c).mark }) := by
  obtain ⟨h1, e1, R1⟩ := R.sis hj ((S.nodes c).key == k && !(S.nodes c).mark)
  have hkey : run (n + 2) 40 [pt (L.hb j)] h = _ := key_ok R hj hd (n + 1)
  have hkind : run (n + 2) 42 [pt (L.hb j)] h = _ := kind_ok R hj hd (n + 1)
  have g1 := agn1_of (R.e1 hj hs) (veq_p _)
  have g2 := agn1_of (R.h4 hj hc) (veq_p _)
  have g3 := agn1_of (R.n0 (R.clt hj hc)) (veq_i _ _)
  have hlt : decide ((S.nodes c).key < k) = false := decide_eq_false hge
  have b3 : ((3 : Int) == 3) = true := rfl
  refine ⟨h1, L, ?_, R1, .refl _⟩
  rw [run, callR_succ, eq48]
  cases b : ((S.nodes c).key == k) <;> rw [b] at e1 <;> simp only [Bool.true_and, Bool.false_and] at e1 <;>
    simp only [f48, f48j1, bindR_ret, noPan_ret, guardR_true, ifR_true, ifR_false, gd_true, gd_false, gd_skip, cond_true, cond_false, pureR_some, nonnil_q, padd_q, Nat.zero_add, boolE_b, eqNeq_eql, eqNeq_neq, intB_eql, intB_neq, intB_lss, unV_not, pickV_b, Bool.and_true, Bool.true_and, Bool.not_true, Bool.not_false, Option.bind_some, clean, tup, R.e1 hj hs, R.h4 hj hc, R.n0 (R.clt hj hc), R.n2 (R.clt hj hc), hkey, hkind, g1, g2, g3, hlt, b3, b, e1]

/-- It goes on to 'first' at once. -/
theorem z1_first (R : Rep h S L) {j c : Nat} {kd k : Int} (hj : j < S.nh) {s : St} (hs : (S.hands j).st = some s) (ha : S.algo = 2) (hc : (S.hands j).c = some c)
    (hd : (S.hands j).prog[(S.hands j).pos]? = some (kd, k)) (hk3 : kd ≠ 3) (hge : ¬ (S.nodes c).key < k) {S' : Sys} (n : Nat)
    (hf : Does L (run (n + 2) 49 [pt (L.eb j + 4), pt (L.eb j + 1), pt (L.eb j + 5)] h) false S') :
    Does L (run (n + 3) 48 [pt (L.eb j + 1), pt (L.eb j + 4)] h) false S' := by
  obtain ⟨h1, L1, e1, R1, hL⟩ := hf
  have hkey : run (n + 2) 40 [pt (L.hb j)] h = _ := key_ok R hj hd (n + 1)
  have hkind : run (n + 2) 42 [pt (L.hb j)] h = _ := kind_ok R hj hd (n + 1)
  have g1 := agn1_of (R.e1 hj hs) (veq_p _)
  have g2 := agn1_of (R.h4 hj hc) (veq_p _)
  have g3 := agn1_of (R.n0 (R.clt hj hc)) (veq_i _ _)
  have hlt : decide ((S.nodes c).key < k) = false := decide_eq_false hge
  have b3 : (kd == 3) = false := by simp [hk3]
  have e4 := R.e hj hs 4 (v := fv 49 [L.eb j + 4, L.eb j + 1, L.eb j + 5]) (by simp [envC, ha, stV])
  have e5 : callR Go.Proofs.Try.prog cfg (n + 2) 49 ([] ++ List.map q [L.eb j + 4, L.eb j + 1, L.eb j + 5]) h = _ := e1
  refine ⟨h1, L1, ?_, R1, hL⟩
  rw [run, callR_succ, eq48]
  simp only [f48, f48j1, bindR_ret, noPan_ret, guardR_true, ifR_true, ifR_false, gd_true, gd_false, gd_skip, cond_true, cond_false, pureR_some, nonnil_q, padd_q, Nat.zero_add, boolE_b, eqNeq_eql, eqNeq_neq, intB_eql, intB_neq, intB_lss, unV_not, pickV_b, Bool.and_true, Bool.true_and, Bool.not_true, Bool.not_false, Option.bind_some, clean, tup, R.e1 hj hs, R.h4 hj hc, R.n0 (R.clt hj hc), hkey, hkind, g1, g2, g3, hlt, b3, e4, callV_fv, e5]

theorem z5_ok (R : Rep h S L) {j p c m : Nat} (hj : j < S.nh) {s : St} (hs : (S.hands j).st = some s) (hp : (S.hands j).p = some p) (hc : (S.hands j).c = some c) (hm : (S.nodes c).next = some m) (n : Nat) :
    Does L (run (n + 3) 52 [pt (L.eb j + 1)] h) true (((S.nextN p m).lockN p false).lockN c false) := by
  obtain ⟨h2, e2, R2⟩ := R.snext (i := p) (k := m) (R.plt hj hp) (R.next c (R.clt hj hc) m hm)
  obtain ⟨h4, e4, R4⟩ := free_ok R2 hj hp hc (n + 1)
  have e4 : run (n + 2) 44 [pt (L.hb j)] h2 = _ := e4
  refine ⟨h4, L, ?_, R4, .refl _⟩
  rw [run, callR_succ, eq52]
  simp only [f52, bindR_ret, noPan_ret, guardR_true, ifR_true, ifR_false, gd_true, gd_false, gd_skip, cond_true, cond_false, pureR_some, nonnil_q, padd_q, Nat.zero_add, boolE_b, eqNeq_eql, eqNeq_neq, intB_eql, intB_neq, intB_lss, unV_not, pickV_b, Bool.and_true, Bool.true_and, Bool.not_true, Bool.not_false, Option.bind_some, clean, tup, R.e1 hj hs, R.h3 hj hp, R.h4 hj hc, R.n1 (R.clt hj hc) hm, e2, R2.e1 hj hs, e4]

end
end Go.Ha

namespace Go.Ha
open Go.AM Go.Proofs.YtejokpfeepbfeaaAm

section
variable {h : Heap} {S : Sys} {L : Lay}

theorem z4_fail (R : Rep h S L) {j p c m : Nat} {kd k : Int} (hj : j < S.nh) {s : St} (hs : (S.hands j).st = some s) (ha : S.algo = 2) (hp : (S.hands j).p = some p) (hc : (S.hands j).c = some c)
    (hd : (S.hands j).prog[(S.hands j).pos]? = some (kd, k)) (hm : (S.nodes p).next = some m) (hf : ((S.nodes p).mark || (S.nodes c).mark || !(m == c)) = true) (n : Nat) :
    Does L (run (n + 3) 51 [pt (L.eb j + 1), pt (L.eb j + 2), pt (L.eb j + 7)] h) false (((S.lockN p false).lockN c false).setH j { S.hands j with st := some .z0 }) := by
  obtain ⟨h1, e1, R1⟩ := free_ok R hj hp hc (n + 1)
  have e1 : run (n + 2) 44 [pt (L.hb j)] h = _ := e1
  obtain ⟨h3, e3, R3⟩ := R1.sdo hj .z0 (by show (S.hands j).st ≠ none; rw [hs]; simp)
  have e4 := R1.e hj hs 2 (v := stV (L.eb j) (some .z0)) (by have : S.algo = 2 := ha; simp [envC, Sys.lockN, Sys.setN, this])
  have hkey : run (n + 2) 40 [pt (L.hb j)] h = _ := key_ok R hj hd (n + 1)
  have g1 := agn1_of (R.e1 hj hs) (veq_p _)
  have g2 := agn1_of (R.h4 hj hc) (veq_p _)
  have g3 := agn1_of (R.n0 (R.clt hj hc)) (veq_i _ _)
  have hplt := R.plt hj hp
  have hclt := R.clt hj hc
  have e6 := ptrE_nb R (R.next p hplt m hm) hclt
  refine ⟨h3, L, ?_, R3, .refl _⟩
  rw [run, callR_succ, eq51]
  cases b1 : (S.nodes p).mark <;> cases b2 : (S.nodes c).mark <;> cases b3 : (m == c) <;> rw [b3] at e6 <;>
    first
    | (rw [b1, b2, b3] at hf; simp at hf; done)
    | simp only [f51, f51j1, bindR_ret, noPan_ret, guardR_true, ifR_true, ifR_false, gd_true, gd_false, gd_skip, cond_true, cond_false, pureR_some, nonnil_q, padd_q, Nat.zero_add, boolE_b, eqNeq_eql, eqNeq_neq, intB_eql, intB_neq, intB_lss, unV_not, pickV_b, Bool.and_true, Bool.true_and, Bool.not_true, Bool.not_false, Option.bind_some, clean, tup, R.e1 hj hs, R.h3 hj hp, R.h4 hj hc, R.n0 hclt, R.n1 hplt hm, R.n2 hplt, R.n2 hclt, hkey, g1, g2, g3, b1, b2, e6, e1, R1.e1 hj hs, e4, e3]

theorem z4_add (R : Rep h S L) {j p c : Nat} {k : Int} (hj : j < S.nh) {s : St} (hs : (S.hands j).st = some s) (hp : (S.hands j).p = some p) (hc : (S.hands j).c = some c)
    (hd : (S.hands j).prog[(S.hands j).pos]? = some (1, k)) (hm : (S.nodes p).next = some c) (b1 : (S.nodes p).mark = false) (b2 : (S.nodes c).mark = false) (n : Nat) :
    Does L (run (n + 3) 51 [pt (L.eb j + 1), pt (L.eb j + 2), pt (L.eb j + 7)] h) true
      (let S1 := S.setH j { S.hands j with is := !((S.nodes c).key == k) }
       let S2 := if (S.nodes c).key = k then S1 else (S1.add ⟨k, some c, false, false⟩).nextN p S.nn
       (S2.lockN p false).lockN c false) := by
  obtain ⟨h1, e1, R1⟩ := R.sis hj (!((S.nodes c).key == k))
  have hp1 : ((S.setH j { S.hands j with is := !((S.nodes c).key == k) }).hands j).p = some p := by rw [hands_setH]; exact hp
  have hc1 : ((S.setH j { S.hands j with is := !((S.nodes c).key == k) }).hands j).c = some c := by rw [hands_setH]; exact hc
  have hs1 : ((S.setH j { S.hands j with is := !((S.nodes c).key == k) }).hands j).st = some s := by rw [hands_setH]; exact hs
  have hd1 : ((S.setH j { S.hands j with is := !((S.nodes c).key == k) }).hands j).prog[((S.setH j { S.hands j with is := !((S.nodes c).key == k) }).hands j).pos]? = some (1, k) := by rw [hands_setH]; exact hd
  have hi1 : ldR h1 (.pointer (some ⟨L.hb j, 5, none⟩)) = some (.ret (.bool (!((S.nodes c).key == k))) h1) := by have := R1.h5 hj; rw [hands_setH] at this; exact this
  have hkey : run (n + 2) 40 [pt (L.hb j)] h = _ := key_ok R hj hd (n + 1)
  have hkind : run (n + 2) 42 [pt (L.hb j)] h = _ := kind_ok R hj hd (n + 1)
  have g1 := agn1_of (R.e1 hj hs) (veq_p _)
  have g2 := agn1_of (R.h4 hj hc) (veq_p _)
  have g3 := agn1_of (R.n0 (R.clt hj hc)) (veq_i _ _)
  have hplt := R.plt hj hp
  have hclt := R.clt hj hc
  have e6 := ptrE_nb R hclt hclt
  rw [show (c == c) = true by simp] at e6
  have b3 : ((1 : Int) == 1) = true := rfl
  simp only
  by_cases hk : (S.nodes c).key = k
  · rw [if_pos hk]
    have hb : ((S.nodes c).key == k) = true := by simp [hk]
    rw [hb] at e1 hi1
    obtain ⟨h4, e4, R4⟩ := free_ok R1 hj hp1 hc1 (n + 1)
    have e4 : run (n + 2) 44 [pt (L.hb j)] h1 = _ := e4
    refine ⟨h4, L, ?_, R4, .refl _⟩
    rw [run, callR_succ, eq51]
    simp only [Bool.not_true] at e1 hi1
    simp only [f51, f51j1, bindR_ret, noPan_ret, guardR_true, ifR_true, ifR_false, gd_true, gd_false, gd_skip, cond_true, cond_false, pureR_some, nonnil_q, padd_q, Nat.zero_add, boolE_b, eqNeq_eql, eqNeq_neq, intB_eql, intB_neq, intB_lss, unV_not, pickV_b, Bool.and_true, Bool.true_and, Bool.not_true, Bool.not_false, Option.bind_some, clean, tup, R.e1 hj hs, R.h3 hj hp, R.h4 hj hc, R.n0 hclt, R.n1 hplt hm, R.n2 hplt, R.n2 hclt, hkey, hkind, g1, g2, g3, b1, b2, b3, e6, hb, e1, hi1, R1.e1 hj hs1, e4]
  · rw [if_neg hk]
    have hb : ((S.nodes c).key == k) = false := by simp [hk]
    rw [hb] at e1 hi1
    obtain ⟨h2, e2, R2⟩ := add_ok R1 hj hp1 hc1 hd1 n
    obtain ⟨h4, e4, R4⟩ := free_ok R2 hj hp1 hc1 (n + 1)
    have e4 : run (n + 2) 44 [pt (L.hb j)] h2 = _ := e4
    have e5 : ldR h2 (.pointer (some ⟨L.eb j + 1, 0, none⟩)) = some (.ret (pt (L.hb j)) h2) := R2.e1 hj hs1
    refine ⟨h4, _, ?_, R4, .bead _ _ _⟩
    rw [run, callR_succ, eq51]
    simp only [Bool.not_false] at e1 hi1
    simp only [f51, f51j1, bindR_ret, noPan_ret, guardR_true, ifR_true, ifR_false, gd_true, gd_false, gd_skip, cond_true, cond_false, pureR_some, nonnil_q, padd_q, Nat.zero_add, boolE_b, eqNeq_eql, eqNeq_neq, intB_eql, intB_neq, intB_lss, unV_not, pickV_b, Bool.and_true, Bool.true_and, Bool.not_true, Bool.not_false, Option.bind_some, clean, tup, R.e1 hj hs, R.h3 hj hp, R.h4 hj hc, R.n0 hclt, R.n1 hplt hm, R.n2 hplt, R.n2 hclt, hkey, hkind, g1, g2, g3, b1, b2, b3, e6, hb, e1, hi1, R1.e1 hj hs1, e2, e4, e5]

theorem z4_cut (R : Rep h S L) {j p c : Nat} {kd k : Int} (hj : j < S.nh) {s : St} (hs : (S.hands j).st = some s) (ha : S.algo = 2) (hp : (S.hands j).p = some p) (hc : (S.hands j).c = some c)
    (hd : (S.hands j).prog[(S.hands j).pos]? = some (kd, k)) (hk1 : kd ≠ 1) (hm : (S.nodes p).next = some c) (b1 : (S.nodes p).mark = false) (b2 : (S.nodes c).mark = false) (hk : (S.nodes c).key = k) (n : Nat) :
    Does L (run (n + 3) 51 [pt (L.eb j + 1), pt (L.eb j + 2), pt (L.eb j + 7)] h) false ((S.markN c true).setH j { S.hands j with is := true, st := some .z5 }) := by
  have hplt := R.plt hj hp
  have hclt := R.clt hj hc
  obtain ⟨h1, e1, R1⟩ := R.smark (i := c) hclt true
  obtain ⟨h2, e2, R2⟩ := R1.sis hj true
  have hs2 : (((S.setN c { S.nodes c with mark := true }).setH j { (S.setN c { S.nodes c with mark := true }).hands j with is := true }).hands j).st = some s := by rw [hands_setH]; exact hs
  obtain ⟨h3, e3, R3⟩ := R2.sdo hj .z5 (by rw [hs2]; simp)
  rw [setH_setH, hands_setH] at R3
  have hkey : run (n + 2) 40 [pt (L.hb j)] h = _ := key_ok R hj hd (n + 1)
  have hkind : run (n + 2) 42 [pt (L.hb j)] h = _ := kind_ok R hj hd (n + 1)
  have g1 := agn1_of (R.e1 hj hs) (veq_p _)
  have g2 := agn1_of (R.h4 hj hc) (veq_p _)
  have g3 := agn1_of (R.n0 (R.clt hj hc)) (veq_i _ _)
  have g4 := agn1_of (R1.e1 hj hs) (veq_p _)
  have e6 := ptrE_nb R hclt hclt
  rw [show (c == c) = true by simp] at e6
  have b3 : (kd == 1) = false := by simp [hk1]
  have hb : ((S.nodes c).key == k) = true := by simp [hk]
  have e4 := R2.e hj hs2 7 (v := stV (L.eb j) (some .z5)) (by have : S.algo = 2 := ha; simp [envC, Sys.setN, Sys.setH, this])
  refine ⟨h3, L, ?_, R3, .refl _⟩
  rw [run, callR_succ, eq51]
  simp only [f51, f51j1, bindR_ret, noPan_ret, guardR_true, ifR_true, ifR_false, gd_true, gd_false, gd_skip, cond_true, cond_false, pureR_some, nonnil_q, padd_q, Nat.zero_add, boolE_b, eqNeq_eql, eqNeq_neq, intB_eql, intB_neq, intB_lss, unV_not, pickV_b, Bool.and_true, Bool.true_and, Bool.not_true, Bool.not_false, Option.bind_some, clean, tup, R.e1 hj hs, R.h3 hj hp, R.h4 hj hc, R.n0 hclt, R.n1 hplt hm, R.n2 hplt, R.n2 hclt, hkey, hkind, g1, g2, g3, g4, b1, b2, b3, e6, hb, e1, e2, R2.e1 hj hs2, e4, e3]

theorem z4_none (R : Rep h S L) {j p c : Nat} {kd k : Int} (hj : j < S.nh) {s : St} (hs : (S.hands j).st = some s) (hp : (S.hands j).p = some p) (hc : (S.hands j).c = some c)
    (hd : (S.hands j).prog[(S.hands j).pos]? = some (kd, k)) (hk1 : kd ≠ 1) (hm : (S.nodes p).next = some c) (b1 : (S.nodes p).mark = false) (b2 : (S.nodes c).mark = false) (hk : (S.nodes c).key ≠ k) (n : Nat) :
    Does L (run (n + 3) 51 [pt (L.eb j + 1), pt (L.eb j + 2), pt (L.eb j + 7)] h) true (((S.setH j { S.hands j with is := false }).lockN p false).lockN c false) := by
  have hplt := R.plt hj hp
  have hclt := R.clt hj hc
  obtain ⟨h1, e1, R1⟩ := R.sis hj false
  have hp1 : ((S.setH j { S.hands j with is := false }).hands j).p = some p := by rw [hands_setH]; exact hp
  have hc1 : ((S.setH j { S.hands j with is := false }).hands j).c = some c := by rw [hands_setH]; exact hc
  have hs1 : ((S.setH j { S.hands j with is := false }).hands j).st = some s := by rw [hands_setH]; exact hs
  have hkey : run (n + 2) 40 [pt (L.hb j)] h = _ := key_ok R hj hd (n + 1)
  have hkind : run (n + 2) 42 [pt (L.hb j)] h = _ := kind_ok R hj hd (n + 1)
  have g1 := agn1_of (R.e1 hj hs) (veq_p _)
  have g2 := agn1_of (R.h4 hj hc) (veq_p _)
  have g3 := agn1_of (R.n0 (R.clt hj hc)) (veq_i _ _)
  have e6 := ptrE_nb R hclt hclt
  rw [show (c == c) = true by simp] at e6
  have b3 : (kd == 1) = false := by simp [hk1]
  have hb : ((S.nodes c).key == k) = false := by simp [hk]
  obtain ⟨h4, e4, R4⟩ := free_ok R1 hj hp1 hc1 (n + 1)
  have e4 : run (n + 2) 44 [pt (L.hb j)] h1 = _ := e4
  refine ⟨h4, L, ?_, R4, .refl _⟩
  rw [run, callR_succ, eq51]
  simp only [f51, f51j1, bindR_ret, noPan_ret, guardR_true, ifR_true, ifR_false, gd_true, gd_false, gd_skip, cond_true, cond_false, pureR_some, nonnil_q, padd_q, Nat.zero_add, boolE_b, eqNeq_eql, eqNeq_neq, intB_eql, intB_neq, intB_lss, unV_not, pickV_b, Bool.and_true, Bool.true_and, Bool.not_true, Bool.not_false, Option.bind_some, clean, tup, R.e1 hj hs, R.h3 hj hp, R.h4 hj hc, R.n0 hclt, R.n1 hplt hm, R.n2 hplt, R.n2 hclt, hkey, hkind, g1, g2, g3, b1, b2, b3, e6, hb, e1, R1.e1 hj hs1, e4]

end
end Go.Ha

namespace Go.Ha
open Go.AM Go.Proofs.YtejokpfeepbfeaaAm

section
variable {h : Heap} {S : Sys} {L : Lay}

theorem clean_ok (R : Rep h S L) {j p c m : Nat} (hj : j < S.nh) {s : St} (hs : (S.hands j).st = some s) (hp : (S.hands j).p = some p) (hc : (S.hands j).c = some c) (hm : (S.nodes p).next = some m) (n : Nat) :
    run (n + 1) 53 [pt (L.eb j + 1)] h = some (.ret (.bool (!(S.nodes p).mark && (m == c))) h) := by
  have hplt := R.plt hj hp
  have e6 := ptrE_nb R (R.next p hplt m hm) (R.clt hj hc)
  rw [run, callR_succ, eq53]
  cases b1 : (S.nodes p).mark <;> simp only [f53, bindR_ret, noPan_ret, guardR_true, ifR_true, ifR_false, gd_true, gd_false, gd_skip, cond_true, cond_false, pureR_some, nonnil_q, padd_q, Nat.zero_add, boolE_b, eqNeq_eql, eqNeq_neq, intB_eql, intB_neq, intB_lss, unV_not, pickV_b, Bool.and_true, Bool.true_and, Bool.false_and, Bool.not_true, Bool.not_false, Option.bind_some, clean, tup, callV_fv, R.e1 hj hs, R.h3 hj hp, R.h4 hj hc, R.n1 hplt hm, R.n2 hplt, b1, e6]

theorem m0_ok (R : Rep h S L) {j k : Nat} (hj : j < S.nh) {s : St} (hs : (S.hands j).st = some s) (ha : S.algo ≠ 1 ∧ S.algo ≠ 2) (hk : (S.nodes 0).next = some k) (n : Nat) :
    Does L (run (n + 3) 54 [pt (L.eb j), pt (L.eb j + 1), pt (L.eb j + 3)] h) false (S.setH j { S.hands j with p := some 0, c := some k, st := some .m1 }) := by
  obtain ⟨h2, e2, R2⟩ := begin_ok R hj (k := k) hk (n + 1)
  have e2 : run (n + 2) 46 [pt L.T, pt (L.hb j)] h = _ := e2
  have hs2 : ((S.setH j { S.hands j with p := some 0, c := some k }).hands j).st = some s := by rw [hands_setH]; exact hs
  obtain ⟨h3, e3, R3⟩ := R2.sdo hj .m1 (by rw [hs2]; simp)
  rw [setH_setH, hands_setH] at R3
  refine ⟨h3, L, ?_, R3, .refl _⟩
  have e4 := R2.e hj hs2 3 (v := stV (L.eb j) (some .m1)) (by have h1 : S.algo ≠ 1 := ha.1; have h2 : S.algo ≠ 2 := ha.2; simp [envC, Sys.setH, Sys.setN, Sys.markN, Sys.nextN, h1, h2])
  rw [run, callR_succ, eq54]
  simp only [f54, bindR_ret, noPan_ret, guardR_true, ifR_true, ifR_false, gd_true, gd_false, gd_skip, cond_true, cond_false, pureR_some, nonnil_q, padd_q, Nat.zero_add, boolE_b, eqNeq_eql, eqNeq_neq, intB_eql, intB_neq, intB_lss, unV_not, pickV_b, Bool.and_true, Bool.true_and, Bool.false_and, Bool.not_true, Bool.not_false, Option.bind_some, clean, tup, callV_fv, R.e0 hj hs, R.e1 hj hs, e2, R2.e1 hj hs2, e4, e3]

theorem m1_again (R : Rep h S L) {j p c : Nat} {kd k : Int} (hj : j < S.nh) {s : St} (hs : (S.hands j).st = some s) (ha : S.algo ≠ 1 ∧ S.algo ≠ 2) (hp : (S.hands j).p = some p) (hc : (S.hands j).c = some c) (hd : (S.hands j).prog[(S.hands j).pos]? = some (kd, k)) {m : Nat} (hm : (S.nodes p).next = some m) (hk3 : kd ≠ 3) (hmk : (S.nodes c).mark = true) (hcl : (!(S.nodes p).mark && (m == c)) = false) (n : Nat) :
    Does L (run (n + 3) 55 [pt (L.eb j + 1), pt (L.eb j + 6), pt (L.eb j + 2), pt (L.eb j + 4)] h) false (S.setH j { S.hands j with st := some .m0 }) := by
  have hkey : run (n + 2) 40 [pt (L.hb j)] h = _ := key_ok R hj hd (n + 1)
  have hkind : run (n + 2) 42 [pt (L.hb j)] h = _ := kind_ok R hj hd (n + 1)
  have g1 := agn1_of (R.e1 hj hs) (veq_p _)
  have g2 := agn1_of (R.h4 hj hc) (veq_p _)
  have g3 := agn1_of (R.n0 (R.clt hj hc)) (veq_i _ _)
  have hplt := R.plt hj hp
  have hclt := R.clt hj hc
  have e6 := R.e hj hs 6 (v := fv 53 [L.eb j + 1]) (by have h1 : S.algo ≠ 1 := ha.1; have h2 : S.algo ≠ 2 := ha.2; simp [envC, Sys.setH, Sys.setN, Sys.markN, Sys.nextN, h1, h2])
  have e7 : callR Go.Proofs.Try.prog cfg (n + 2) 53 ([] ++ List.map q [L.eb j + 1]) h = _ := clean_ok R hj hs hp hc hm (n + 1)
  rw [hcl] at e7
  have b3 : (kd != 3) = true := by simp [hk3]
  obtain ⟨h3, e3, R3⟩ := R.sdo hj .m0 (by rw [hs]; simp)
  have e4 := R.e hj hs 2 (v := stV (L.eb j) (some .m0)) (by have h1 : S.algo ≠ 1 := ha.1; have h2 : S.algo ≠ 2 := ha.2; simp [envC, Sys.setH, Sys.setN, Sys.markN, Sys.nextN, h1, h2])
  refine ⟨h3, L, ?_, R3, .refl _⟩
  rw [run, callR_succ, eq55]
  simp only [f55, f55j1, bindR_ret, noPan_ret, guardR_true, ifR_true, ifR_false, gd_true, gd_false, gd_skip, cond_true, cond_false, pureR_some, nonnil_q, padd_q, Nat.zero_add, boolE_b, eqNeq_eql, eqNeq_neq, intB_eql, intB_neq, intB_lss, unV_not, pickV_b, Bool.and_true, Bool.true_and, Bool.false_and, Bool.not_true, Bool.not_false, Option.bind_some, clean, tup, callV_fv, R.e1 hj hs, R.h4 hj hc, R.n0 hclt, R.n2 hclt, hkey, hkind, g1, g2, g3, hmk, b3, e6, e7, e4, e3]

theorem m1_unl (R : Rep h S L) {j p c : Nat} {kd k : Int} (hj : j < S.nh) {s : St} (hs : (S.hands j).st = some s) (ha : S.algo ≠ 1 ∧ S.algo ≠ 2) (hp : (S.hands j).p = some p) (hc : (S.hands j).c = some c) (hd : (S.hands j).prog[(S.hands j).pos]? = some (kd, k)) {m m' : Nat} (hm : (S.nodes p).next = some m) (hm' : (S.nodes c).next = some m') (hk3 : kd ≠ 3) (hmk : (S.nodes c).mark = true) (hcl : (!(S.nodes p).mark && (m == c)) = true) (n : Nat) :
    Does L (run (n + 3) 55 [pt (L.eb j + 1), pt (L.eb j + 6), pt (L.eb j + 2), pt (L.eb j + 4)] h) false ((S.nextN p m').setH j { S.hands j with c := some m' }) := by
  have hkey : run (n + 2) 40 [pt (L.hb j)] h = _ := key_ok R hj hd (n + 1)
  have hkind : run (n + 2) 42 [pt (L.hb j)] h = _ := kind_ok R hj hd (n + 1)
  have g1 := agn1_of (R.e1 hj hs) (veq_p _)
  have g2 := agn1_of (R.h4 hj hc) (veq_p _)
  have g3 := agn1_of (R.n0 (R.clt hj hc)) (veq_i _ _)
  have hplt := R.plt hj hp
  have hclt := R.clt hj hc
  have e6 := R.e hj hs 6 (v := fv 53 [L.eb j + 1]) (by have h1 : S.algo ≠ 1 := ha.1; have h2 : S.algo ≠ 2 := ha.2; simp [envC, Sys.setH, Sys.setN, Sys.markN, Sys.nextN, h1, h2])
  have e7 : callR Go.Proofs.Try.prog cfg (n + 2) 53 ([] ++ List.map q [L.eb j + 1]) h = _ := clean_ok R hj hs hp hc hm (n + 1)
  rw [hcl] at e7
  have b3 : (kd != 3) = true := by simp [hk3]
  obtain ⟨h2, e2, R2⟩ := R.snext (i := p) (k := m') hplt (R.next c hclt m' hm')
  obtain ⟨h3, e3, R3⟩ := R2.sc (i := m') hj (R.next c hclt m' hm')
  have e8 : ldR h2 (.pointer (some ⟨L.nb c, 1, none⟩)) = some (.ret (.pointer (some ⟨L.nb m', 0, none⟩)) h2) := R2.n1 (i := c) (k := m') hclt (by
    simp only [Sys.setN, setF]; split
    · rfl
    · exact hm')
  refine ⟨h3, L, ?_, R3, .refl _⟩
  rw [run, callR_succ, eq55]
  simp only [f55, f55j1, bindR_ret, noPan_ret, guardR_true, ifR_true, ifR_false, gd_true, gd_false, gd_skip, cond_true, cond_false, pureR_some, nonnil_q, padd_q, Nat.zero_add, boolE_b, eqNeq_eql, eqNeq_neq, intB_eql, intB_neq, intB_lss, unV_not, pickV_b, Bool.and_true, Bool.true_and, Bool.false_and, Bool.not_true, Bool.not_false, Option.bind_some, clean, tup, callV_fv, R.e1 hj hs, R.h4 hj hc, R.n0 hclt, R.n2 hclt, hkey, hkind, g1, g2, g3, R.h3 hj hp, R.n1 hclt hm', hmk, b3, e6, e7, e2, R2.e1 hj hs, R2.h4 hj hc, e8, e3]

theorem m1_on (R : Rep h S L) {j p c : Nat} {kd k : Int} (hj : j < S.nh) {s : St} (hs : (S.hands j).st = some s) (ha : S.algo ≠ 1 ∧ S.algo ≠ 2) (hp : (S.hands j).p = some p) (hc : (S.hands j).c = some c) (hd : (S.hands j).prog[(S.hands j).pos]? = some (kd, k)) {m' : Nat} (hm' : (S.nodes c).next = some m') (hno : ((S.nodes c).mark && (kd != 3)) = false) (hlt : (S.nodes c).key < k) (n : Nat) :
    Does L (run (n + 3) 55 [pt (L.eb j + 1), pt (L.eb j + 6), pt (L.eb j + 2), pt (L.eb j + 4)] h) false (S.setH j { S.hands j with p := some c, c := some m' }) := by
  have hkey : run (n + 2) 40 [pt (L.hb j)] h = _ := key_ok R hj hd (n + 1)
  have hkind : run (n + 2) 42 [pt (L.hb j)] h = _ := kind_ok R hj hd (n + 1)
  have g1 := agn1_of (R.e1 hj hs) (veq_p _)
  have g2 := agn1_of (R.h4 hj hc) (veq_p _)
  have g3 := agn1_of (R.n0 (R.clt hj hc)) (veq_i _ _)
  have hplt := R.plt hj hp
  have hclt := R.clt hj hc
  obtain ⟨h2, e2, R2⟩ := on_ok R hj hc hm' (n + 1)
  have e2 : run (n + 2) 41 [pt (L.hb j)] h = _ := e2
  have hlt : decide ((S.nodes c).key < k) = true := decide_eq_true hlt
  refine ⟨h2, L, ?_, R2, .refl _⟩
  rw [run, callR_succ, eq55]
  cases b1 : (S.nodes c).mark <;> cases b2 : (kd != 3) <;>
    first
    | (rw [b1, b2] at hno; simp at hno; done)
    | simp only [f55, f55j1, bindR_ret, noPan_ret, guardR_true, ifR_true, ifR_false, gd_true, gd_false, gd_skip, cond_true, cond_false, pureR_some, nonnil_q, padd_q, Nat.zero_add, boolE_b, eqNeq_eql, eqNeq_neq, intB_eql, intB_neq, intB_lss, unV_not, pickV_b, Bool.and_true, Bool.true_and, Bool.false_and, Bool.not_true, Bool.not_false, Option.bind_some, clean, tup, callV_fv, R.e1 hj hs, R.h4 hj hc, R.n0 hclt, R.n2 hclt, hkey, hkind, g1, g2, g3, b1, b2, hlt, e2]

theorem m1_has (R : Rep h S L) {j p c : Nat} {kd k : Int} (hj : j < S.nh) {s : St} (hs : (S.hands j).st = some s) (ha : S.algo ≠ 1 ∧ S.algo ≠ 2) (hp : (S.hands j).p = some p) (hc : (S.hands j).c = some c) (hd : (S.hands j).prog[(S.hands j).pos]? = some (kd, k)) (hk3 : kd = 3) (hge : ¬ (S.nodes c).key < k) (n : Nat) :
    Does L (run (n + 3) 55 [pt (L.eb j + 1), pt (L.eb j + 6), pt (L.eb j + 2), pt (L.eb j + 4)] h) true (S.setH j { S.hands j with is := (S.nodes c).key == k && !(S.nodes c).mark }) := by
  have hkey : run (n + 2) 40 [pt (L.hb j)] h = _ := key_ok R hj hd (n + 1)
  have hkind : run (n + 2) 42 [pt (L.hb j)] h = _ := kind_ok R hj hd (n + 1)
  have g1 := agn1_of (R.e1 hj hs) (veq_p _)
  have g2 := agn1_of (R.h4 hj hc) (veq_p _)
  have g3 := agn1_of (R.n0 (R.clt hj hc)) (veq_i _ _)
  have hplt := R.plt hj hp
  have hclt := R.clt hj hc
  obtain ⟨h1, e1, R1⟩ := R.sis hj ((S.nodes c).key == k && !(S.nodes c).mark)
  have hlt : decide ((S.nodes c).key < k) = false := decide_eq_false hge
  have b2 : (kd != 3) = false := by simp [hk3]
  have b4 : (kd == 3) = true := by simp [hk3]
  refine ⟨h1, L, ?_, R1, .refl _⟩
  rw [run, callR_succ, eq55]
  cases b1 : (S.nodes c).mark <;> cases b : ((S.nodes c).key == k) <;> rw [b1, b] at e1 <;> simp only [Bool.true_and, Bool.false_and, Bool.not_true, Bool.not_false] at e1 <;>
    simp only [f55, f55j1, bindR_ret, noPan_ret, guardR_true, ifR_true, ifR_false, gd_true, gd_false, gd_skip, cond_true, cond_false, pureR_some, nonnil_q, padd_q, Nat.zero_add, boolE_b, eqNeq_eql, eqNeq_neq, intB_eql, intB_neq, intB_lss, unV_not, pickV_b, Bool.and_true, Bool.true_and, Bool.false_and, Bool.not_true, Bool.not_false, Option.bind_some, clean, tup, callV_fv, R.e1 hj hs, R.h4 hj hc, R.n0 hclt, R.n2 hclt, hkey, hkind, g1, g2, g3, b1, b2, b4, b, hlt, e1]

theorem m1_no (R : Rep h S L) {j p c : Nat} {kd k : Int} (hj : j < S.nh) {s : St} (hs : (S.hands j).st = some s) (ha : S.algo ≠ 1 ∧ S.algo ≠ 2) (hp : (S.hands j).p = some p) (hc : (S.hands j).c = some c) (hd : (S.hands j).prog[(S.hands j).pos]? = some (kd, k)) (hk3 : kd ≠ 3) (hmk : (S.nodes c).mark = false) (hge : ¬ (S.nodes c).key < k) (hb : (((S.nodes c).key == k) == (kd == 1)) = true) (n : Nat) :
    Does L (run (n + 3) 55 [pt (L.eb j + 1), pt (L.eb j + 6), pt (L.eb j + 2), pt (L.eb j + 4)] h) true (S.setH j { S.hands j with is := false }) := by
  have hkey : run (n + 2) 40 [pt (L.hb j)] h = _ := key_ok R hj hd (n + 1)
  have hkind : run (n + 2) 42 [pt (L.hb j)] h = _ := kind_ok R hj hd (n + 1)
  have g1 := agn1_of (R.e1 hj hs) (veq_p _)
  have g2 := agn1_of (R.h4 hj hc) (veq_p _)
  have g3 := agn1_of (R.n0 (R.clt hj hc)) (veq_i _ _)
  have hplt := R.plt hj hp
  have hclt := R.clt hj hc
  obtain ⟨h1, e1, R1⟩ := R.sis hj false
  have hlt : decide ((S.nodes c).key < k) = false := decide_eq_false hge
  have b4 : (kd == 3) = false := by simp [hk3]
  refine ⟨h1, L, ?_, R1, .refl _⟩
  rw [run, callR_succ, eq55]
  simp only [f55, f55j1, bindR_ret, noPan_ret, guardR_true, ifR_true, ifR_false, gd_true, gd_false, gd_skip, cond_true, cond_false, pureR_some, nonnil_q, padd_q, Nat.zero_add, boolE_b, eqNeq_eql, eqNeq_neq, intB_eql, intB_neq, intB_lss, unV_not, pickV_b, Bool.and_true, Bool.true_and, Bool.false_and, Bool.not_true, Bool.not_false, Option.bind_some, clean, tup, callV_fv, R.e1 hj hs, R.h4 hj hc, R.n0 hclt, R.n2 hclt, hkey, hkind, g1, g2, g3, hmk, b4, hb, hlt, e1]

theorem m1_deed (R : Rep h S L) {j p c : Nat} {kd k : Int} (hj : j < S.nh) {s : St} (hs : (S.hands j).st = some s) (ha : S.algo ≠ 1 ∧ S.algo ≠ 2) (hp : (S.hands j).p = some p) (hc : (S.hands j).c = some c) (hd : (S.hands j).prog[(S.hands j).pos]? = some (kd, k)) (hk3 : kd ≠ 3) (hmk : (S.nodes c).mark = false) (hge : ¬ (S.nodes c).key < k) (hb : (((S.nodes c).key == k) == (kd == 1)) = false) (n : Nat) :
    Does L (run (n + 3) 55 [pt (L.eb j + 1), pt (L.eb j + 6), pt (L.eb j + 2), pt (L.eb j + 4)] h) false (S.setH j { S.hands j with st := some .m2 }) := by
  have hkey : run (n + 2) 40 [pt (L.hb j)] h = _ := key_ok R hj hd (n + 1)
  have hkind : run (n + 2) 42 [pt (L.hb j)] h = _ := kind_ok R hj hd (n + 1)
  have g1 := agn1_of (R.e1 hj hs) (veq_p _)
  have g2 := agn1_of (R.h4 hj hc) (veq_p _)
  have g3 := agn1_of (R.n0 (R.clt hj hc)) (veq_i _ _)
  have hplt := R.plt hj hp
  have hclt := R.clt hj hc
  obtain ⟨h1, e1, R1⟩ := R.sdo hj .m2 (by rw [hs]; simp)
  have e4 := R.e hj hs 4 (v := stV (L.eb j) (some .m2)) (by have h1 : S.algo ≠ 1 := ha.1; have h2 : S.algo ≠ 2 := ha.2; simp [envC, Sys.setH, Sys.setN, Sys.markN, Sys.nextN, h1, h2])
  have hlt : decide ((S.nodes c).key < k) = false := decide_eq_false hge
  have b4 : (kd == 3) = false := by simp [hk3]
  refine ⟨h1, L, ?_, R1, .refl _⟩
  rw [run, callR_succ, eq55]
  simp only [f55, f55j1, bindR_ret, noPan_ret, guardR_true, ifR_true, ifR_false, gd_true, gd_false, gd_skip, cond_true, cond_false, pureR_some, nonnil_q, padd_q, Nat.zero_add, boolE_b, eqNeq_eql, eqNeq_neq, intB_eql, intB_neq, intB_lss, unV_not, pickV_b, Bool.and_true, Bool.true_and, Bool.false_and, Bool.not_true, Bool.not_false, Option.bind_some, clean, tup, callV_fv, R.e1 hj hs, R.h4 hj hc, R.n0 hclt, R.n2 hclt, hkey, hkind, g1, g2, g3, hmk, b4, hb, hlt, e4, e1]

theorem m2_add (R : Rep h S L) {j p c : Nat} {kd k : Int} (hj : j < S.nh) {s : St} (hs : (S.hands j).st = some s) (ha : S.algo ≠ 1 ∧ S.algo ≠ 2) (hp : (S.hands j).p = some p) (hc : (S.hands j).c = some c) (hd : (S.hands j).prog[(S.hands j).pos]? = some (kd, k)) {m : Nat} (hm : (S.nodes p).next = some m) (hk1 : kd = 1) (hok : ((S.algo == 4) || (!(S.nodes p).mark && (m == c))) = true) (n : Nat) :
    Does L (run (n + 3) 56 [pt (L.eb j), pt (L.eb j + 1), pt (L.eb j + 6), pt (L.eb j + 5), pt (L.eb j + 2)] h) true (((S.add ⟨k, some c, false, false⟩).nextN p S.nn).setH j { S.hands j with is := true }) := by
  have hkey : run (n + 2) 40 [pt (L.hb j)] h = _ := key_ok R hj hd (n + 1)
  have hkind : run (n + 2) 42 [pt (L.hb j)] h = _ := kind_ok R hj hd (n + 1)
  have g1 := agn1_of (R.e1 hj hs) (veq_p _)
  have g2 := agn1_of (R.h4 hj hc) (veq_p _)
  have g3 := agn1_of (R.n0 (R.clt hj hc)) (veq_i _ _)
  have hplt := R.plt hj hp
  have hclt := R.clt hj hc
  have e6 := R.e hj hs 6 (v := fv 53 [L.eb j + 1]) (by have h1 : S.algo ≠ 1 := ha.1; have h2 : S.algo ≠ 2 := ha.2; simp [envC, Sys.setH, Sys.setN, Sys.markN, Sys.nextN, h1, h2])
  have e7 : callR Go.Proofs.Try.prog cfg (n + 2) 53 ([] ++ List.map q [L.eb j + 1]) h = _ := clean_ok R hj hs hp hc hm (n + 1)
  have b1 : (kd == 1) = true := by simp [hk1]
  obtain ⟨h2, e2, R2⟩ := add_ok R hj hp hc hd n
  obtain ⟨h3, e3, R3⟩ := R2.sis (j := j) hj true
  have e3 : stR h2 (.pointer (some ⟨L.hb j, 5, none⟩)) (.bool true) = some (.ret undef h3) := e3
  have e5 : ldR h2 (.pointer (some ⟨L.eb j + 1, 0, none⟩)) = some (.ret (pt (L.hb j)) h2) := R2.e1 hj hs
  refine ⟨h3, _, ?_, R3, .bead _ _ _⟩
  rw [run, callR_succ, eq56]
  cases b4 : (S.algo == 4) <;> cases b5 : (!(S.nodes p).mark && (m == c)) <;> rw [b5] at e7 <;>
    first
    | (rw [b4, b5] at hok; simp at hok; done)
    | simp only [f56, f56j1, bindR_ret, noPan_ret, guardR_true, ifR_true, ifR_false, gd_true, gd_false, gd_skip, cond_true, cond_false, pureR_some, nonnil_q, padd_q, Nat.zero_add, boolE_b, eqNeq_eql, eqNeq_neq, intB_eql, intB_neq, intB_lss, unV_not, pickV_b, Bool.and_true, Bool.true_and, Bool.false_and, Bool.not_true, Bool.not_false, Option.bind_some, clean, tup, callV_fv, R.e0 hj hs, R.e1 hj hs, R.t0, hkind, b1, b4, e6, e7, e2, e5, e3]

theorem m2_naive (R : Rep h S L) {j p c : Nat} {kd k : Int} (hj : j < S.nh) {s : St} (hs : (S.hands j).st = some s) (ha : S.algo ≠ 1 ∧ S.algo ≠ 2) (hp : (S.hands j).p = some p) (hc : (S.hands j).c = some c) (hd : (S.hands j).prog[(S.hands j).pos]? = some (kd, k)) {m' : Nat} (hm' : (S.nodes c).next = some m') (hk1 : kd = 2) (h4 : S.algo = 4) (n : Nat) :
    Does L (run (n + 3) 56 [pt (L.eb j), pt (L.eb j + 1), pt (L.eb j + 6), pt (L.eb j + 5), pt (L.eb j + 2)] h) true ((S.nextN p m').setH j { S.hands j with is := true }) := by
  have hkey : run (n + 2) 40 [pt (L.hb j)] h = _ := key_ok R hj hd (n + 1)
  have hkind : run (n + 2) 42 [pt (L.hb j)] h = _ := kind_ok R hj hd (n + 1)
  have g1 := agn1_of (R.e1 hj hs) (veq_p _)
  have g2 := agn1_of (R.h4 hj hc) (veq_p _)
  have g3 := agn1_of (R.n0 (R.clt hj hc)) (veq_i _ _)
  have hplt := R.plt hj hp
  have hclt := R.clt hj hc
  have b1 : (kd == 1) = false := by simp [hk1]
  have b2 : (kd == 2) = true := by simp [hk1]
  have b4 : (S.algo == 4) = true := by simp [h4]
  obtain ⟨h2, e2, R2⟩ := R.snext (i := p) (k := m') hplt (R.next c hclt m' hm')
  obtain ⟨h3, e3, R3⟩ := R2.sis (j := j) hj true
  have g4 := agn1_of (R2.e1 hj hs) (veq_p _)
  refine ⟨h3, _, ?_, R3, .refl _⟩
  rw [run, callR_succ, eq56]
  simp only [f56, f56j1, bindR_ret, noPan_ret, guardR_true, ifR_true, ifR_false, gd_true, gd_false, gd_skip, cond_true, cond_false, pureR_some, nonnil_q, padd_q, Nat.zero_add, boolE_b, eqNeq_eql, eqNeq_neq, intB_eql, intB_neq, intB_lss, unV_not, pickV_b, Bool.and_true, Bool.true_and, Bool.false_and, Bool.not_true, Bool.not_false, Option.bind_some, clean, tup, callV_fv, R.e0 hj hs, R.e1 hj hs, R.t0, hkind, R.h3 hj hp, R.h4 hj hc, R.n1 hclt hm', b1, b2, b4, e2, g4, e3]

theorem m2_cut (R : Rep h S L) {j p c : Nat} {kd k : Int} (hj : j < S.nh) {s : St} (hs : (S.hands j).st = some s) (ha : S.algo ≠ 1 ∧ S.algo ≠ 2) (hp : (S.hands j).p = some p) (hc : (S.hands j).c = some c) (hd : (S.hands j).prog[(S.hands j).pos]? = some (kd, k)) (hk1 : kd = 2) (h4 : S.algo ≠ 4) (hmk : (S.nodes c).mark = false) (n : Nat) :
    Does L (run (n + 3) 56 [pt (L.eb j), pt (L.eb j + 1), pt (L.eb j + 6), pt (L.eb j + 5), pt (L.eb j + 2)] h) false ((S.markN c true).setH j { S.hands j with is := true, st := some .m3 }) := by
  have hkey : run (n + 2) 40 [pt (L.hb j)] h = _ := key_ok R hj hd (n + 1)
  have hkind : run (n + 2) 42 [pt (L.hb j)] h = _ := kind_ok R hj hd (n + 1)
  have g1 := agn1_of (R.e1 hj hs) (veq_p _)
  have g2 := agn1_of (R.h4 hj hc) (veq_p _)
  have g3 := agn1_of (R.n0 (R.clt hj hc)) (veq_i _ _)
  have hplt := R.plt hj hp
  have hclt := R.clt hj hc
  have b1 : (kd == 1) = false := by simp [hk1]
  have b2 : (kd == 2) = true := by simp [hk1]
  have b4 : (S.algo == 4) = false := by simp [h4]
  obtain ⟨h1, e1, R1⟩ := R.smark (i := c) hclt true
  obtain ⟨h2, e2, R2⟩ := R1.sis hj true
  have hs2 : (((S.setN c { S.nodes c with mark := true }).setH j { (S.setN c { S.nodes c with mark := true }).hands j with is := true }).hands j).st = some s := by rw [hands_setH]; exact hs
  obtain ⟨h3, e3, R3⟩ := R2.sdo hj .m3 (by rw [hs2]; simp)
  rw [setH_setH, hands_setH] at R3
  have g4 := agn1_of (R1.e1 hj hs) (veq_p _)
  have e4 := R2.e hj hs2 5 (v := stV (L.eb j) (some .m3)) (by have h1 : S.algo ≠ 1 := ha.1; have h2 : S.algo ≠ 2 := ha.2; simp [envC, Sys.setH, Sys.setN, Sys.markN, Sys.nextN, h1, h2])
  refine ⟨h3, _, ?_, R3, .refl _⟩
  rw [run, callR_succ, eq56]
  simp only [f56, f56j1, bindR_ret, noPan_ret, guardR_true, ifR_true, ifR_false, gd_true, gd_false, gd_skip, cond_true, cond_false, pureR_some, nonnil_q, padd_q, Nat.zero_add, boolE_b, eqNeq_eql, eqNeq_neq, intB_eql, intB_neq, intB_lss, unV_not, pickV_b, Bool.and_true, Bool.true_and, Bool.false_and, Bool.not_true, Bool.not_false, Option.bind_some, clean, tup, callV_fv, R.e0 hj hs, R.e1 hj hs, R.t0, hkind, R.h4 hj hc, R.n2 hclt, hmk, b1, b2, b4, e1, g4, e2, R2.e1 hj hs2, e4, e3]

theorem m2_again (R : Rep h S L) {j p c : Nat} {kd k : Int} (hj : j < S.nh) {s : St} (hs : (S.hands j).st = some s) (ha : S.algo ≠ 1 ∧ S.algo ≠ 2) (hp : (S.hands j).p = some p) (hc : (S.hands j).c = some c) (hd : (S.hands j).prog[(S.hands j).pos]? = some (kd, k)) {m : Nat} (hm : (S.nodes p).next = some m) (h4 : S.algo ≠ 4) (hno : (kd = 1 ∧ (!(S.nodes p).mark && (m == c)) = false) ∨ (kd = 2 ∧ (S.nodes c).mark = true)) (n : Nat) :
    Does L (run (n + 3) 56 [pt (L.eb j), pt (L.eb j + 1), pt (L.eb j + 6), pt (L.eb j + 5), pt (L.eb j + 2)] h) false (S.setH j { S.hands j with st := some .m0 }) := by
  have hkey : run (n + 2) 40 [pt (L.hb j)] h = _ := key_ok R hj hd (n + 1)
  have hkind : run (n + 2) 42 [pt (L.hb j)] h = _ := kind_ok R hj hd (n + 1)
  have g1 := agn1_of (R.e1 hj hs) (veq_p _)
  have g2 := agn1_of (R.h4 hj hc) (veq_p _)
  have g3 := agn1_of (R.n0 (R.clt hj hc)) (veq_i _ _)
  have hplt := R.plt hj hp
  have hclt := R.clt hj hc
  have e6 := R.e hj hs 6 (v := fv 53 [L.eb j + 1]) (by have h1 : S.algo ≠ 1 := ha.1; have h2 : S.algo ≠ 2 := ha.2; simp [envC, Sys.setH, Sys.setN, Sys.markN, Sys.nextN, h1, h2])
  have e7 : callR Go.Proofs.Try.prog cfg (n + 2) 53 ([] ++ List.map q [L.eb j + 1]) h = _ := clean_ok R hj hs hp hc hm (n + 1)
  have b4 : (S.algo == 4) = false := by simp [h4]
  obtain ⟨h1, e1, R1⟩ := R.sdo hj .m0 (by rw [hs]; simp)
  have e4 := R.e hj hs 2 (v := stV (L.eb j) (some .m0)) (by have h1 : S.algo ≠ 1 := ha.1; have h2 : S.algo ≠ 2 := ha.2; simp [envC, Sys.setH, Sys.setN, Sys.markN, Sys.nextN, h1, h2])
  refine ⟨h1, _, ?_, R1, .refl _⟩
  rw [run, callR_succ, eq56]
  rcases hno with ⟨hk, hcl⟩ | ⟨hk, hmk⟩
  · rw [hcl] at e7
    have b1 : (kd == 1) = true := by simp [hk]
    have b2 : (kd == 2) = false := by simp [hk]
    simp only [f56, f56j1, bindR_ret, noPan_ret, guardR_true, ifR_true, ifR_false, gd_true, gd_false, gd_skip, cond_true, cond_false, pureR_some, nonnil_q, padd_q, Nat.zero_add, boolE_b, eqNeq_eql, eqNeq_neq, intB_eql, intB_neq, intB_lss, unV_not, pickV_b, Bool.and_true, Bool.true_and, Bool.false_and, Bool.not_true, Bool.not_false, Option.bind_some, clean, tup, callV_fv, R.e0 hj hs, R.e1 hj hs, R.t0, hkind, b1, b2, b4, e6, e7, e4, e1]
  · have b1 : (kd == 1) = false := by simp [hk]
    have b2 : (kd == 2) = true := by simp [hk]
    simp only [f56, f56j1, bindR_ret, noPan_ret, guardR_true, ifR_true, ifR_false, gd_true, gd_false, gd_skip, cond_true, cond_false, pureR_some, nonnil_q, padd_q, Nat.zero_add, boolE_b, eqNeq_eql, eqNeq_neq, intB_eql, intB_neq, intB_lss, unV_not, pickV_b, Bool.and_true, Bool.true_and, Bool.false_and, Bool.not_true, Bool.not_false, Option.bind_some, clean, tup, callV_fv, R.e0 hj hs, R.e1 hj hs, R.t0, hkind, R.h4 hj hc, R.n2 hclt, hmk, b1, b2, b4, e4, e1]

theorem m3_ok (R : Rep h S L) {j p c m m' : Nat} (hj : j < S.nh) {s : St} (hs : (S.hands j).st = some s) (ha : S.algo ≠ 1 ∧ S.algo ≠ 2) (hp : (S.hands j).p = some p) (hc : (S.hands j).c = some c)
    (hm : (S.nodes p).next = some m) (hm' : (S.nodes c).next = some m') (n : Nat) :
    Does L (run (n + 3) 57 [pt (L.eb j + 6), pt (L.eb j + 1)] h) true (if (!(S.nodes p).mark && (m == c)) = true then S.nextN p m' else S) := by
  have hplt := R.plt hj hp
  have hclt := R.clt hj hc
  have e6 := R.e hj hs 6 (v := fv 53 [L.eb j + 1]) (by have h1 : S.algo ≠ 1 := ha.1; have h2 : S.algo ≠ 2 := ha.2; simp [envC, Sys.setH, Sys.setN, Sys.markN, Sys.nextN, h1, h2])
  have e7 : callR Go.Proofs.Try.prog cfg (n + 2) 53 ([] ++ List.map q [L.eb j + 1]) h = _ := clean_ok R hj hs hp hc hm (n + 1)
  cases b : (!(S.nodes p).mark && (m == c)) <;> rw [b] at e7
  · refine ⟨h, _, ?_, R, .refl _⟩
    rw [run, callR_succ, eq57]
    simp only [f57, f57j1, bindR_ret, noPan_ret, guardR_true, ifR_true, ifR_false, gd_true, gd_false, gd_skip, cond_true, cond_false, pureR_some, nonnil_q, padd_q, Nat.zero_add, boolE_b, eqNeq_eql, eqNeq_neq, intB_eql, intB_neq, intB_lss, unV_not, pickV_b, Bool.and_true, Bool.true_and, Bool.false_and, Bool.not_true, Bool.not_false, Option.bind_some, clean, tup, callV_fv, e6, e7]
  · obtain ⟨h2, e2, R2⟩ := R.snext (i := p) (k := m') hplt (R.next c hclt m' hm')
    refine ⟨h2, _, ?_, R2, .refl _⟩
    rw [run, callR_succ, eq57]
    simp only [f57, f57j1, bindR_ret, noPan_ret, guardR_true, ifR_true, ifR_false, gd_true, gd_false, gd_skip, cond_true, cond_false, pureR_some, nonnil_q, padd_q, Nat.zero_add, boolE_b, eqNeq_eql, eqNeq_neq, intB_eql, intB_neq, intB_lss, unV_not, pickV_b, Bool.and_true, Bool.true_and, Bool.false_and, Bool.not_true, Bool.not_false, Option.bind_some, clean, tup, callV_fv, R.e1 hj hs, R.h3 hj hp, R.h4 hj hc, R.n1 hclt hm', e6, e7, e2]

end
end Go.Ha

namespace Go.Ha
open Go.AM Go.Proofs.YtejokpfeepbfeaaAm

/-- 'first' of those that look twice. -/
def first (S : Sys) (j p : Nat) : Sys :=
  if (S.nodes p).lock = true then S.setH j { S.hands j with st := some .z2 } else (S.lockN p true).setH j { S.hands j with st := some .z3 }

/-- Nobody marked p, and c is its next. -/
def cleanB (S : Sys) (p c : Nat) : Bool := !(S.nodes p).mark && ((S.nodes p).next == some c)

/-- One step of hand j at its deed (kd, k): the new state; is the deed done? -/
def act (S : Sys) (j : Nat) (kd k : Int) : Sys × Bool :=
  let x := S.hands j
  let p := x.p.getD 0
  let c := x.c.getD 0
  let P := S.nodes p
  let C := S.nodes c
  match x.st with
  | none => (S, false)
  | some .l0 => if (S.nodes 0).lock = true then (S, false) else ((S.lockN 0 true).setH j { x with p := some 0, c := (S.nodes 0).next, st := some .l1 }, false)
  | some .l1 => if C.lock = true then (S, false) else ((S.lockN c true).setH j { x with st := some .l2 }, false)
  | some .l2 =>
    if C.key < k then ((S.lockN p false).setH j { x with p := some c, c := C.next, st := some .l1 }, false) else
    let is := (C.key == k) == (kd != 1)
    let S1 := S.setH j { x with is := is }
    let S2 := if kd = 1 ∧ is = true then (S1.add ⟨k, some c, false, false⟩).nextN p S.nn
      else if kd = 2 ∧ is = true then (S1.setN p { P with next := C.next }).markN c true else S1
    ((S2.lockN p false).lockN c false, true)
  | some .z0 => (S.setH j { x with p := some 0, c := (S.nodes 0).next, st := some .z1 }, false)
  | some .z1 =>
    if C.key < k then (S.setH j { x with p := some c, c := C.next }, false)
    else if kd = 3 then (S.setH j { x with is := C.key == k && !C.mark }, true)
    else (first S j p, false)
  | some .z2 => (first S j p, false)
  | some .z3 => if C.lock = true then (S, false) else ((S.lockN c true).setH j { x with st := some .z4 }, false)
  | some .z4 =>
    if (P.mark || C.mark || !(P.next == some c)) = true then (((S.lockN p false).lockN c false).setH j { x with st := some .z0 }, false)
    else if kd = 1 then
      let S1 := S.setH j { x with is := !(C.key == k) }
      let S2 := if C.key = k then S1 else (S1.add ⟨k, some c, false, false⟩).nextN p S.nn
      ((S2.lockN p false).lockN c false, true)
    else if C.key = k then ((S.markN c true).setH j { x with is := true, st := some .z5 }, false)
    else (((S.setH j { x with is := false }).lockN p false).lockN c false, true)
  | some .z5 => (((S.setN p { P with next := C.next }).lockN p false).lockN c false, true)
  | some .m0 => (S.setH j { x with p := some 0, c := (S.nodes 0).next, st := some .m1 }, false)
  | some .m1 =>
    if C.mark = true ∧ kd ≠ 3 then
      if cleanB S p c = true then ((S.setN p { P with next := C.next }).setH j { x with c := C.next }, false)
      else (S.setH j { x with st := some .m0 }, false)
    else if C.key < k then (S.setH j { x with p := some c, c := C.next }, false)
    else if kd = 3 then (S.setH j { x with is := C.key == k && !C.mark }, true)
    else if ((C.key == k) == (kd == 1)) = true then (S.setH j { x with is := false }, true)
    else (S.setH j { x with st := some .m2 }, false)
  | some .m2 =>
    if kd = 1 ∧ (S.algo = 4 ∨ cleanB S p c = true) then (((S.add ⟨k, some c, false, false⟩).nextN p S.nn).setH j { x with is := true }, true)
    else if kd = 2 ∧ S.algo = 4 then ((S.setN p { P with next := C.next }).setH j { x with is := true }, true)
    else if kd = 2 ∧ C.mark = false then ((S.markN c true).setH j { x with is := true, st := some .m3 }, false)
    else (S.setH j { x with st := some .m0 }, false)
  | some .m3 => (if cleanB S p c = true then S.setN p { P with next := C.next } else S, true)

/-- What a step may lean on: where hand j stands. -/
structure Stands (S : Sys) (j : Nat) (kd k : Int) : Prop where
  lt : j < S.nh
  deed : (S.hands j).prog[(S.hands j).pos]? = some (kd, k)
  kind : kd = 1 ∨ kd = 2 ∨ kd = 3
  low : k ≤ 9
  busy : (S.hands j).st ≠ none
  algo : ∀ s, (S.hands j).st = some s → match s with
    | .l0 | .l1 | .l2 => S.algo = 1
    | .z0 | .z1 | .z2 | .z3 | .z4 | .z5 => S.algo = 2
    | _ => S.algo ≠ 1 ∧ S.algo ≠ 2
  head : ∃ m, (S.nodes 0).next = some m
  on : ∀ s, (S.hands j).st = some s → s ≠ .l0 → s ≠ .z0 → s ≠ .m0 → ∃ p c m, (S.hands j).p = some p ∧ (S.hands j).c = some c ∧ (S.nodes p).next = some m
  /-- Only the last bead has no next one; it is never marked, nor cut. -/
  next : ∀ s, (S.hands j).st = some s → s ≠ .l0 → s ≠ .z0 → s ≠ .m0 → ∀ c, (S.hands j).c = some c → ((S.nodes c).key ≤ 9 ∨ (S.nodes c).mark = true) → ∃ m, (S.nodes c).next = some m
  cut : ∀ s, (S.hands j).st = some s → s = .z5 ∨ s = .m3 ∨ (s = .m2 ∧ kd = 2) → ∀ c, (S.hands j).c = some c → (S.nodes c).key ≤ 9
  two : (S.hands j).st = some .m2 → kd = 1 ∨ kd = 2
  three : (S.hands j).st = some .z4 → kd ≠ 3

end Go.Ha

namespace Go.Ha
open Go.AM Go.Proofs.YtejokpfeepbfeaaAm

section
variable {h : Heap} {S : Sys} {L : Lay}

theorem someBeq {m c : Nat} : ((some m : Option Nat) == some c) = (m == c) := rfl

theorem act_l (R : Rep h S L) {j : Nat} {kd k : Int} (W : Stands S j kd k) (n : Nat) {s : St} (hs : (S.hands j).st = some s) (hl : s = .l0 ∨ s = .l1 ∨ s = .l2) :
    Does L (callV (run (n + 3)) h (stV (L.eb j) (some s)) []) (act S j kd k).2 (act S j kd k).1 := by
  have hj := W.lt
  rcases hl with rfl | rfl | rfl
  · have e : callV (run (n + 3)) h (stV (L.eb j) (some .l0)) [] = run (n + 3) 45 [pt (L.eb j), pt (L.eb j + 1), pt (L.eb j + 2)] h := callV_fv _ _ _ _ _
    rw [e]
    have ha := W.algo _ hs
    obtain ⟨m, hm⟩ := W.head
    simp only [act, hs]
    by_cases hl : (S.nodes 0).lock = true
    · rw [if_pos hl]; exact l0_no R hj hs hl n
    · rw [if_neg hl, hm]; exact l0_ok R hj hs ha (by simpa using hl) hm n
  · have e : callV (run (n + 3)) h (stV (L.eb j) (some .l1)) [] = run (n + 3) 37 [pt (L.eb j + 1), pt (L.eb j + 3)] h := callV_fv _ _ _ _ _
    rw [e]
    have ha := W.algo _ hs
    obtain ⟨p, c, m, hp, hc, hm⟩ := W.on _ hs (by simp) (by simp) (by simp)
    simp only [act, hs, hp, hc, Option.getD_some]
    by_cases hl : (S.nodes c).lock = true
    · rw [if_pos hl]; exact l1_no R hj hs hc hl n
    · rw [if_neg hl]
      have := l1_ok R hj hs ha hc (by simpa using hl) n
      simpa only [hp, hc] using this
  · have e : callV (run (n + 3)) h (stV (L.eb j) (some .l2)) [] = run (n + 3) 39 [pt (L.eb j + 1), pt (L.eb j + 2)] h := callV_fv _ _ _ _ _
    rw [e]
    have ha := W.algo _ hs
    obtain ⟨p, c, m, hp, hc, hm⟩ := W.on _ hs (by simp) (by simp) (by simp)
    simp only [act, hs, hp, hc, Option.getD_some]
    by_cases hl : (S.nodes c).key < k
    · rw [if_pos hl]
      obtain ⟨m', hm'⟩ := W.next _ hs (by simp) (by simp) (by simp) c hc (.inl (by have := W.low; omega))
      have := l2_on R hj hs ha hp hc W.deed hl hm' n
      rw [hm']
      exact this
    · rw [if_neg hl]
      have := l2_end R hj hs hp hc W.deed hl (fun _ h2 => W.next _ hs (by simp) (by simp) (by simp) c hc (.inl (by have := W.low; omega))) n
      simpa only [hs, hp, hc] using this

theorem first_ok (R : Rep h S L) {j p : Nat} (hj : j < S.nh) {s : St} (hs : (S.hands j).st = some s) (ha : S.algo = 2) (hp : (S.hands j).p = some p) (n : Nat) :
    Does L (run (n + 2) 49 [pt (L.eb j + 4), pt (L.eb j + 1), pt (L.eb j + 5)] h) false (first S j p) := by
  unfold first
  by_cases hl : (S.nodes p).lock = true
  · rw [if_pos hl]; exact z2_no R hj hs ha hp hl n
  · rw [if_neg hl]; exact z2_ok R hj hs ha hp (by simpa using hl) n

theorem act_z (R : Rep h S L) {j : Nat} {kd k : Int} (W : Stands S j kd k) (n : Nat) {s : St} (hs : (S.hands j).st = some s) (hl : s = .z0 ∨ s = .z1 ∨ s = .z2 ∨ s = .z3 ∨ s = .z4 ∨ s = .z5) :
    Does L (callV (run (n + 3)) h (stV (L.eb j) (some s)) []) (act S j kd k).2 (act S j kd k).1 := by
  have hj := W.lt
  rcases hl with rfl | rfl | rfl | rfl | rfl | rfl
  · have e : callV (run (n + 3)) h (stV (L.eb j) (some .z0)) [] = run (n + 3) 47 [pt (L.eb j), pt (L.eb j + 1), pt (L.eb j + 3)] h := callV_fv _ _ _ _ _
    rw [e]
    obtain ⟨m, hm⟩ := W.head
    simp only [act, hs, hm]
    exact z0_ok R hj hs (W.algo _ hs) hm n
  · have e : callV (run (n + 3)) h (stV (L.eb j) (some .z1)) [] = run (n + 3) 48 [pt (L.eb j + 1), pt (L.eb j + 4)] h := callV_fv _ _ _ _ _
    rw [e]
    obtain ⟨p, c, m, hp, hc, hm⟩ := W.on _ hs (by simp) (by simp) (by simp)
    simp only [act, hs, hp, hc, Option.getD_some]
    by_cases hl : (S.nodes c).key < k
    · rw [if_pos hl]
      obtain ⟨m', hm'⟩ := W.next _ hs (by simp) (by simp) (by simp) c hc (.inl (by have := W.low; omega))
      rw [hm']
      have := z1_on R hj hs hc W.deed hl hm' n
      simpa only [hs] using this
    · rw [if_neg hl]
      by_cases h3 : kd = 3
      · rw [if_pos h3]; subst h3
        have := z1_has R hj hs hc W.deed hl n
        simpa only [hs, hp, hc] using this
      · rw [if_neg h3]
        exact z1_first R hj hs (W.algo _ hs) hc W.deed h3 hl n (first_ok R hj hs (W.algo _ hs) hp n)
  · have e : callV (run (n + 3)) h (stV (L.eb j) (some .z2)) [] = run (n + 3) 49 [pt (L.eb j + 4), pt (L.eb j + 1), pt (L.eb j + 5)] h := callV_fv _ _ _ _ _
    rw [e]
    obtain ⟨p, c, m, hp, hc, hm⟩ := W.on _ hs (by simp) (by simp) (by simp)
    simp only [act, hs, hp, Option.getD_some]
    exact first_ok R hj hs (W.algo _ hs) hp (n + 1)
  · have e : callV (run (n + 3)) h (stV (L.eb j) (some .z3)) [] = run (n + 3) 50 [pt (L.eb j + 1), pt (L.eb j + 6)] h := callV_fv _ _ _ _ _
    rw [e]
    obtain ⟨p, c, m, hp, hc, hm⟩ := W.on _ hs (by simp) (by simp) (by simp)
    simp only [act, hs, hp, hc, Option.getD_some]
    by_cases hl : (S.nodes c).lock = true
    · rw [if_pos hl]; exact z3_no R hj hs hc hl n
    · rw [if_neg hl]
      have := z3_ok R hj hs (W.algo _ hs) hc (by simpa using hl) n
      simpa only [hp, hc] using this
  · have e : callV (run (n + 3)) h (stV (L.eb j) (some .z4)) [] = run (n + 3) 51 [pt (L.eb j + 1), pt (L.eb j + 2), pt (L.eb j + 7)] h := callV_fv _ _ _ _ _
    rw [e]
    obtain ⟨p, c, m, hp, hc, hm⟩ := W.on _ hs (by simp) (by simp) (by simp)
    simp only [act, hs, hp, hc, Option.getD_some, hm, someBeq]
    by_cases hf : ((S.nodes p).mark || (S.nodes c).mark || !(m == c)) = true
    · rw [if_pos hf]
      have := z4_fail R hj hs (W.algo _ hs) hp hc W.deed hm hf n
      simpa only [hp, hc] using this
    · rw [if_neg hf]
      have hb1 : (S.nodes p).mark = false := by cases b : (S.nodes p).mark <;> simp_all
      have hb2 : (S.nodes c).mark = false := by cases b : (S.nodes c).mark <;> simp_all
      have hmc : m = c := by simpa [hb1, hb2] using hf
      subst hmc
      by_cases h1 : kd = 1
      · rw [if_pos h1]; subst h1
        have := z4_add R hj hs hp hc W.deed hm hb1 hb2 n
        simpa only [hs, hp, hc] using this
      · rw [if_neg h1]
        by_cases hk : (S.nodes m).key = k
        · rw [if_pos hk]
          have := z4_cut R hj hs (W.algo _ hs) hp hc W.deed h1 hm hb1 hb2 hk n
          simpa only [hp, hc] using this
        · rw [if_neg hk]
          have := z4_none R hj hs hp hc W.deed h1 hm hb1 hb2 hk n
          simpa only [hs, hp, hc] using this
  · have e : callV (run (n + 3)) h (stV (L.eb j) (some .z5)) [] = run (n + 3) 52 [pt (L.eb j + 1)] h := callV_fv _ _ _ _ _
    rw [e]
    obtain ⟨p, c, m, hp, hc, hm⟩ := W.on _ hs (by simp) (by simp) (by simp)
    obtain ⟨m', hm'⟩ := W.next _ hs (by simp) (by simp) (by simp) c hc (.inl (W.cut _ hs (.inl rfl) c hc))
    simp only [act, hs, hp, hc, Option.getD_some, hm']
    exact z5_ok R hj hs hp hc hm' n

theorem act_m (R : Rep h S L) {j : Nat} {kd k : Int} (W : Stands S j kd k) (n : Nat) {s : St} (hs : (S.hands j).st = some s) (hl : s = .m0 ∨ s = .m1 ∨ s = .m2 ∨ s = .m3) :
    Does L (callV (run (n + 3)) h (stV (L.eb j) (some s)) []) (act S j kd k).2 (act S j kd k).1 := by
  have hj := W.lt
  rcases hl with rfl | rfl | rfl | rfl
  · have e : callV (run (n + 3)) h (stV (L.eb j) (some .m0)) [] = run (n + 3) 54 [pt (L.eb j), pt (L.eb j + 1), pt (L.eb j + 3)] h := callV_fv _ _ _ _ _
    rw [e]
    obtain ⟨m, hm⟩ := W.head
    simp only [act, hs, hm]
    exact m0_ok R hj hs (W.algo _ hs) hm n
  · have e : callV (run (n + 3)) h (stV (L.eb j) (some .m1)) [] = run (n + 3) 55 [pt (L.eb j + 1), pt (L.eb j + 6), pt (L.eb j + 2), pt (L.eb j + 4)] h := callV_fv _ _ _ _ _
    rw [e]
    obtain ⟨p, c, m, hp, hc, hm⟩ := W.on _ hs (by simp) (by simp) (by simp)
    have ha := W.algo _ hs
    simp only [act, hs, hp, hc, Option.getD_some, cleanB, hm, someBeq]
    by_cases h1 : (S.nodes c).mark = true ∧ kd ≠ 3
    · rw [if_pos h1]
      obtain ⟨m', hm'⟩ := W.next _ hs (by simp) (by simp) (by simp) c hc (.inr h1.1)
      by_cases h2 : (!(S.nodes p).mark && (m == c)) = true
      · rw [if_pos h2, hm']
        have := m1_unl R hj hs ha hp hc W.deed hm hm' h1.2 h1.1 h2 n
        simpa only [hs, hp, Sys.nextN] using this
      · rw [if_neg h2]
        have := m1_again R hj hs ha hp hc W.deed hm h1.2 h1.1 (by simpa using h2) n
        simpa only [hp, hc] using this
    · rw [if_neg h1]
      by_cases hlt : (S.nodes c).key < k
      · rw [if_pos hlt]
        obtain ⟨m', hm'⟩ := W.next _ hs (by simp) (by simp) (by simp) c hc (.inl (by have := W.low; omega))
        rw [hm']
        have := m1_on R hj hs ha hp hc W.deed hm' (by
          cases b : (S.nodes c).mark with
          | false => rfl
          | true => have : kd = 3 := Classical.byContradiction fun hk => h1 ⟨b, hk⟩
                    simp [this]) hlt n
        simpa only [hs] using this
      · rw [if_neg hlt]
        by_cases h3 : kd = 3
        · rw [if_pos h3]
          have := m1_has R hj hs ha hp hc W.deed h3 hlt n
          simpa only [hs, hp, hc] using this
        · rw [if_neg h3]
          have hmk : (S.nodes c).mark = false := by
            cases b : (S.nodes c).mark with
            | false => rfl
            | true => exact absurd ⟨b, h3⟩ h1
          by_cases hb : (((S.nodes c).key == k) == (kd == 1)) = true
          · rw [if_pos hb]
            have := m1_no R hj hs ha hp hc W.deed h3 hmk hlt hb n
            simpa only [hs, hp, hc] using this
          · rw [if_neg hb]
            have := m1_deed R hj hs ha hp hc W.deed h3 hmk hlt (Bool.eq_false_iff.2 hb) n
            simpa only [hp, hc] using this
  · have e : callV (run (n + 3)) h (stV (L.eb j) (some .m2)) [] = run (n + 3) 56 [pt (L.eb j), pt (L.eb j + 1), pt (L.eb j + 6), pt (L.eb j + 5), pt (L.eb j + 2)] h := callV_fv _ _ _ _ _
    rw [e]
    obtain ⟨p, c, m, hp, hc, hm⟩ := W.on _ hs (by simp) (by simp) (by simp)
    have ha := W.algo _ hs
    simp only [act, hs, hp, hc, Option.getD_some, cleanB, hm, someBeq]
    by_cases h1 : kd = 1 ∧ (S.algo = 4 ∨ (!(S.nodes p).mark && (m == c)) = true)
    · rw [if_pos h1]
      have := m2_add R hj hs ha hp hc W.deed hm h1.1 (by rcases h1.2 with h | h <;> simp [h]) n
      simpa only [hs, hp, hc] using this
    · rw [if_neg h1]
      by_cases h2 : kd = 2 ∧ S.algo = 4
      · rw [if_pos h2]
        obtain ⟨m', hm'⟩ := W.next _ hs (by simp) (by simp) (by simp) c hc (.inl (W.cut _ hs (.inr (.inr ⟨rfl, h2.1⟩)) c hc))
        rw [hm']
        have := m2_naive R hj hs ha hp hc W.deed hm' h2.1 h2.2 n
        simpa only [hs, hp, hc, Sys.nextN] using this
      · rw [if_neg h2]
        by_cases h3 : kd = 2 ∧ (S.nodes c).mark = false
        · rw [if_pos h3]
          have := m2_cut R hj hs ha hp hc W.deed h3.1 (fun h => h2 ⟨h3.1, h⟩) h3.2 n
          simpa only [hp, hc] using this
        · rw [if_neg h3]
          rcases W.two hs with hk | hk
          · have := m2_again R hj hs ha hp hc W.deed hm (fun h => h1 ⟨hk, .inl h⟩) (.inl ⟨hk, Bool.eq_false_iff.2 fun h => h1 ⟨hk, .inr h⟩⟩) n
            simpa only [hp, hc] using this
          · have := m2_again R hj hs ha hp hc W.deed hm (fun h => h2 ⟨hk, h⟩) (.inr ⟨hk, Bool.not_eq_false _ ▸ fun h => h3 ⟨hk, h⟩⟩) n
            simpa only [hp, hc] using this
  · have e : callV (run (n + 3)) h (stV (L.eb j) (some .m3)) [] = run (n + 3) 57 [pt (L.eb j + 6), pt (L.eb j + 1)] h := callV_fv _ _ _ _ _
    rw [e]
    obtain ⟨p, c, m, hp, hc, hm⟩ := W.on _ hs (by simp) (by simp) (by simp)
    obtain ⟨m', hm'⟩ := W.next _ hs (by simp) (by simp) (by simp) c hc (.inl (W.cut _ hs (.inr (.inl rfl)) c hc))
    simp only [act, hs, hp, hc, Option.getD_some, cleanB, hm, someBeq, hm']
    exact m3_ok R hj hs (W.algo _ hs) hp hc hm hm' n

/-- The next step of hand j does what 'act' says. -/
theorem act_ok (R : Rep h S L) {j : Nat} {kd k : Int} (W : Stands S j kd k) (n : Nat) :
    Does L (callV (run (n + 3)) h (stV (L.eb j) (S.hands j).st) []) (act S j kd k).2 (act S j kd k).1 := by
  obtain ⟨s, hs⟩ := Option.ne_none_iff_exists'.1 W.busy
  rw [hs]
  cases s with
  | l0 | l1 | l2 => exact act_l R W n hs (by simp)
  | z0 | z1 | z2 | z3 | z4 | z5 => exact act_z R W n hs (by simp)
  | m0 | m1 | m2 | m3 => exact act_m R W n hs (by simp)

end
end Go.Ha

namespace Go.Ha
open Go.AM Go.Proofs.YtejokpfeepbfeaaAm

section
variable {h : Heap} {S : Sys} {L : Lay}

theorem Rep.t2 (R : Rep h S L) (h0 : 0 < S.nh) : ∃ k, ldR h (.pointer (some ⟨L.T, 2, none⟩)) = some (.ret (.slice (some ⟨L.HA, 0, none⟩) S.nh k) h) := by
  obtain ⟨v, e, hv⟩ := R.tab; obtain ⟨k, rfl⟩ := hv h0; exact ⟨k, ldR_cells e rfl⟩
theorem Rep.t3 (R : Rep h S L) : ldR h (.pointer (some ⟨L.T, 3, none⟩)) = some (.ret (.int .i64 S.now) h) := by
  obtain ⟨k, e, _⟩ := R.tab; exact ldR_cells e rfl
theorem Rep.t4 (R : Rep h S L) : ldR h (.pointer (some ⟨L.T, 4, none⟩)) = some (.ret (.slice (some ⟨L.TA, 0, none⟩) S.nh S.nh) h) := by
  obtain ⟨k, e, _⟩ := R.tab; exact ldR_cells e rfl
theorem Rep.ha1 (R : Rep h S L) {j : Nat} (hj : j < S.nh) : ldR h (.pointer (some ⟨L.HA, 0 + j * 1, none⟩)) = some (.ret (pt (L.hb j)) h) := by
  obtain ⟨r, e, h2⟩ := R.ha (by omega); exact ldR_cells e (by have := h2 j hj; rw [Nat.zero_add, Nat.mul_one]; exact this)
theorem Rep.ta1 (R : Rep h S L) {j : Nat} (hj : j < S.nh) : ldR h (.pointer (some ⟨L.TA, 0 + j * 1, none⟩)) = some (.ret (toldV (L.tb j) (S.told j)) h) := by
  obtain ⟨r, e, h2⟩ := R.ta; exact ldR_cells e (by have := h2 j hj; rw [Nat.zero_add, Nat.mul_one]; exact this)

/-- One more step is told. -/
theorem Rep.snow (R : Rep h S L) (n : Nat) : ∃ h', stR h (.pointer (some ⟨L.T, 3, none⟩)) (.int .i64 n) = some (.ret undef h') ∧ Rep h' { S with now := n } L := by
  obtain ⟨k, e, hk⟩ := R.tab
  refine ⟨_, stR_cells e (by simp) rfl, ?_⟩
  have ne : ∀ {b : Nat} {r : Role}, L.role b = r → r ≠ .tab → b ≠ L.T := fun hb h1 h2 => h1 (by rw [← hb, h2, R.tabR])
  refine { tab := ⟨k, by rw [upd_eq e]; rfl, hk⟩, tabR := R.tabR, ha := ?_, haR := R.haR, ta := ?_, taR := R.taR, first := R.first, next := R.next, node := ?_, hand := ?_, handR := R.handR, env := ?_, told := ?_, inp := ?_, prog := R.prog }
  · intro h0; obtain ⟨r, e, h2⟩ := R.ha h0; exact ⟨r, by rw [upd_ne (ne (R.haR h0) (by simp))]; exact e, h2⟩
  · obtain ⟨r, e, h2⟩ := R.ta; exact ⟨r, by rw [upd_ne (ne R.taR (by simp))]; exact e, h2⟩
  · intro i hi; have h2 := R.node i hi; exact ⟨by rw [upd_ne (ne h2.2 (by simp))]; exact h2.1, h2.2⟩
  · intro j hj; obtain ⟨vp, vc, e, h2⟩ := R.hand j hj; exact ⟨vp, vc, by rw [upd_ne (ne (R.handR j hj) (by simp))]; exact e, h2⟩
  · intro j s hj hs k v hk; have := R.env j s hj hs k v hk; exact ⟨by rw [upd_ne (ne this.2 (by simp))]; exact this.1, this.2⟩
  · intro j hj ht; have := R.told j hj ht; exact ⟨by rw [upd_ne (ne this.2 (by simp))]; exact this.1, this.2⟩
  · intro b r hb; have := R.inp b r hb; exact ⟨by rw [upd_ne (ne this.2 (by simp))]; exact this.1, this.2⟩

end
end Go.Ha

namespace Go.Ha
open Go.AM Go.Proofs.YtejokpfeepbfeaaAm

/-- The layout when hand j's cells lie from e on. -/
def Lay.begun (L : Lay) (j e : Nat) : Lay := { L with eb := setF L.eb j e, role := fun b => if e ≤ b then .env else L.role b }

section
variable {h : Heap} {S : Sys} {L : Lay}

/-- Cells for a deed of a hand that has none under way. -/
theorem Rep.cells (R : Rep h S L) {h1 : Heap} (he : ∀ (b : Nat) (y : Blk), h.bs[b]? = some y → h1.bs[b]? = some y) {j : Nat} (hn : (S.hands j).st = none) : Rep h1 S (L.begun j h.len) := by
  have R1 := (R.role (fun b => if h.len ≤ b then .env else L.role b) (fun b hb => if_neg (by omega))).ext he
  refine { tab := R1.tab, tabR := R1.tabR, ha := R1.ha, haR := R1.haR, ta := R1.ta, taR := R1.taR, first := R1.first, next := R1.next, node := R1.node, hand := ?_, handR := R1.handR, env := ?_, told := R1.told, inp := R1.inp, prog := R1.prog }
  · intro i hi
    obtain ⟨vp, vc, e, h2⟩ := R1.hand i hi
    refine ⟨vp, vc, ?_, h2⟩
    by_cases hij : i = j
    · subst hij; simp only [Lay.begun, setF_same]; rw [e]; simp [hdC, hn, stV]
    · simp only [Lay.begun, setF_ne _ _ hij]; exact e
  · intro i s hi hs k v hk
    have hij : i ≠ j := fun e => by subst e; rw [hn] at hs; simp at hs
    simp only [Lay.begun, setF_ne _ _ hij] at hk ⊢
    exact R1.env i s hi hs k v hk

/-- Its `do` is laid. -/
theorem Rep.start (R : Rep h S L) {j : Nat} (hj : j < S.nh) (s : St) (henv : ∀ k v, (envC L.T (L.hb j) (L.eb j) S.algo)[k]? = some v → h.bs[L.eb j + k]? = some (.cells [v] 0 false) ∧ L.role (L.eb j + k) = .env) :
    ∃ h', stR h (.pointer (some ⟨L.hb j, 2, none⟩)) (stV (L.eb j) (some s)) = some (.ret undef h') ∧ Rep h' (S.setH j { S.hands j with st := some s }) L := by
  obtain ⟨vp, vc, e, h1, h2⟩ := R.hand j hj
  refine ⟨_, stR_cells e (by simp [hdC]) (cellOk_stV _ _), ?_⟩
  exact R.setH' hj { S.hands j with st := some s } vp vc rfl (fun _ _ => henv) ⟨h1, h2⟩

end
end Go.Ha

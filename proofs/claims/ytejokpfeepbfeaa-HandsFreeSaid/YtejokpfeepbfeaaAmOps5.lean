/-
  The abstract machine: append, copy, clear, in both worlds.
-/
import Derived.Test.YtejokpfeepbfeaaAmOps4
namespace Go.AM

section
variable {P : Program} {μ : Pl} {h : Heap} {w : World}

theorem firstCells_ok (hr : HR μ h w) {size n : Nat} {x x' : Value} {l : List Value} (e : elemsOf h size n x = some l) (hx : VP μ h.len x x') :
    ∃ l', (Builtin.firstCells size n x').run P w = .ok l'.toArray w ∧ VL (VR μ h.len) l l' := by
  unfold elemsOf at e; split at e
  · rename_i b o len cap
    simp only [cond_eq_ite] at e
    split at e
    · rename_i hn
      rw [Nat.ble_eq] at hn
      simp only [Option.bind_eq_some_iff] at e
      obtain ⟨c, hc, hcut⟩ := e
      cases hx.clean rfl with
      | slice _ _ _ _ hb =>
        obtain ⟨l', h1, h2, h3⟩ := row_cut hr hc hcut
        refine ⟨l', ?_, h1⟩
        have := run_loadCells (P := P) (a := ⟨(μ b).block, (μ b).base + o, none⟩) (cs := l') w h3 rfl
        rw [h2] at this
        simpa [Builtin.firstCells] using this
      | empty =>
        have h0 : n = 0 := by omega
        subst h0
        obtain ⟨_, h2, h3⟩ := cut_some hcut
        simp at h3; subst h3
        exact ⟨[], by simp [Builtin.firstCells, loadCells, loadCellsFrom], .nil _⟩
    · simp at e
  · rename_i len cap
    simp only [cond_eq_ite] at e
    split at e
    · simp at e; subst e
      cases hx.clean rfl
      exact ⟨[], by simp [Builtin.firstCells], .nil _⟩
    · simp at e
  · rename_i s
    simp only [cond_eq_ite] at e
    split at e
    · rename_i hn
      rw [Nat.ble_eq] at hn
      simp at e; subst e
      cases hx.clean rfl
      refine ⟨(s.data.toList.take n).map (fun b => Value.int .u8 b.toNat), ?_, by rw [← List.map_take]; exact VL.map fun x _ => VR.int _ _⟩
      simp only [Builtin.firstCells, Sem.run_pure]
      congr 1
      apply Array.ext'
      simp [Array.toList_extract, List.extract_eq_take_drop]
    · simp at e
  · simp at e

theorem seqT_spec {t : TypeId} (e : isSeqT P t = true) : ∃ d, P.underlying t = some d ∧ ((∃ e, d = .slice e) ∨ d = .string) := by
  unfold isSeqT at e; split at e
  · exact ⟨_, ‹_›, .inl ⟨_, rfl⟩⟩
  · exact ⟨_, ‹_›, .inr rfl⟩
  · simp at e

theorem lenOf_ok {n : Nat} {x x' : Value} (e : lenOf x = some n) (hx : VP μ h.len x x') : (Builtin.lenOf x').run P w = .ok n w := by
  unfold lenOf at e; split at e
  · simp at e; subst e
    cases hx.clean rfl <;> rfl
  · simp at e; subst e
    cases hx.clean rfl; rfl
  · simp at e

theorem run_append_room' {ts : Array TypeId} {t u e ty : TypeId} {d : TypeDesc} {i : TypeInfo} (h0 : ts[0]? = some t) (h1 : ts[1]? = some u) (hu : P.underlying t = some (.slice e)) (hu2 : P.underlying u = some d)
    (hd : (∃ e', d = .slice e') ∨ d = .string) (hi : P.info? e = some i) {base : Option Addr} {sLen sCap n : Nat} {x : Value} {new : Array Value} {w1 : World}
    (hn : (Builtin.lenOf x).run P w = .ok n w) (hnew : (Builtin.firstCells i.size n x).run P w = .ok new w) (hroom : sLen + n ≤ sCap)
    (hst : ∀ a, base = some a → (storeCells (a.add (sLen * i.size)) new.toList).run P w = .ok () w1) (hno : base = none → w1 = w) :
    (Builtin.append_ ts ty #[.slice base sLen sCap, x]).run P w = .ok (.slice base (sLen + n) sCap) w1 := by
  have hs : (sizeOf e).run P w = .ok i.size w := by rw [run_size hi, sizeT_eq hi]
  cases base with
  | none =>
    have := hno rfl; subst this
    rcases hd with ⟨e', rfl⟩ | rfl <;> simp [Builtin.append_, h0, h1, run_underlying hu, run_underlying hu2, hs, hn, hroom, hnew]
  | some a => rcases hd with ⟨e', rfl⟩ | rfl <;> simp [Builtin.append_, h0, h1, run_underlying hu, run_underlying hu2, hs, hn, hroom, hnew, hst a rfl]

theorem run_append_grow' {ts : Array TypeId} {t u e ty : TypeId} {d : TypeDesc} {i : TypeInfo} {z : Value} (h0 : ts[0]? = some t) (h1 : ts[1]? = some u) (hu : P.underlying t = some (.slice e)) (hu2 : P.underlying u = some d)
    (hd : (∃ e', d = .slice e') ∨ d = .string) (hi : P.info? e = some i) (hz : i.zero = some z) {base : Option Addr} {sLen sCap n : Nat} {x : Value} {old new : Array Value}
    (hn : (Builtin.lenOf x).run P w = .ok n w) (hold : (Builtin.firstCells i.size sLen (.slice base sLen sCap)).run P w.drew = .ok old w.drew)
    (hnew : (Builtin.firstCells i.size n x).run P w.drew = .ok new w.drew) (hroom : sCap < sLen + n) (hby : (sLen + n) * i.bytes ≤ 70368744177664) (h63 : sLen + n ≤ 70368744177664) :
    (Builtin.append_ ts ty #[.slice base sLen sCap, x]).run P w = .ok (.slice (some ⟨w.heap.size, 0, none⟩) (sLen + n) (grownCap w (sLen + n) sCap e))
      (w.drew.alloc (.cells (old ++ new ++ Builtin.zeroCells z.cells (grownCap w (sLen + n) sCap e - (sLen + n))) e)) := by
  have hs : (sizeOf e).run P w = .ok i.size w := by rw [run_size hi, sizeT_eq hi]
  have k1 : ¬ (sLen + n ≤ sCap) := by omega
  have k2 : ¬ (9223372036854775807 < ((sLen : Int) + (n : Int))) := by omega
  have k3 : ¬ (281474976710656 < Builtin.nextslicecap (sLen + n) sCap * i.bytes) := by
    have := growslice_fits (bytes := i.bytes) hroom (by omega); omega
  rcases hd with ⟨e', rfl⟩ | rfl <;> simp [Builtin.append_, h0, h1, run_underlying hu, run_underlying hu2, hs, hn, k1, k2, k3, typeInfo, hi, Question.forced, hold, hnew, zeroValue, hz, newRow, grownCap]

theorem VL.cells {n : Nat} {l l' : List Value} (hc : cellsOk l = true) (hv : VL (VP μ n) l l') : VL (VR μ n) l l' := ⟨hv.1, fun i v hi => by
  obtain ⟨v', a, b⟩ := hv.2 i v hi
  refine ⟨v', a, ?_⟩
  rcases b with rfl | b
  · have := cellsOk_mem hc (List.mem_of_getElem? hi); simp [cellOk, Go.undef] at this
  · exact b⟩

theorem grownCap_ge (w : World) (need old : Nat) (e : TypeId) : need ≤ grownCap w need old e := by
  show need ≤ need + _
  omega

/-- The old row dies, and what was in it, with more behind it, is a new one. -/
theorem kill_step (hr : HR μ h w) (base : Option Addr) : Step μ h w μ (h.kill base) w := by
  unfold Heap.kill; split
  · exact .refl hr
  · split
    · exact .kill hr ‹_›
    · exact .refl hr

@[simp] theorem kill_len {h : Heap} {base : Option Addr} : (h.kill base).len = h.len := by
  unfold Heap.kill; split
  · rfl
  · split <;> simp

theorem zeroCells_size (z : Array Value) (n : Nat) : (Builtin.zeroCells z n).size = n * z.size := by simp [Builtin.zeroCells]

/-- In place, where the abstract heap did not know of the room. -/
theorem Step.regrow (hr : HR μ h w) {b : Nat} {c : List Value} {k : Nat} {s : Bool} (hb : h.bs[b]? = some (.cells c k s)) {o len size : Nat} {old new new' : List Value} {extra1 : Nat}
    {C : Array Value} {e : TypeId} {fz : Nat × Nat} (hw : w.heap[(μ b).block]? = some (.cells C e fz)) (hC : Holds μ h.len c (μ b).base C) (hk : (μ b).base + c.length + (μ b).extra * k ≤ C.size)
    (hfz : fz = (0, 0) ∨ s = true ∧ fz = (C.size, C.size + 1)) (hold : cut c o (len * size) = some old) (hnew : VL (VR μ h.len) new new')
    (hroom : o + len * size + new.length + extra1 * size ≤ c.length + (μ b).extra * k) (h0 : size = 0 → extra1 = 0) :
    Step μ h w (atNew μ h.len ⟨(μ b).block, (μ b).base + o, extra1⟩) ((h.upd b .dead).push (.cells (old ++ new) size s))
      (setBlock w (μ b).block (.cells (setA C ((μ b).base + o + len * size) new') e fz)) := by
  obtain ⟨hcut1, hcut2, hcut3⟩ := cut_some hold
  have hlt := hr.lt hb rfl
  have hm : ∀ x, x < h.len → atNew μ h.len ⟨(μ b).block, (μ b).base + o, extra1⟩ x = μ x := fun x hx => atNew_old hx
  have hne : ∀ (x : Nat) (z : Blk), x ≠ b → h.bs[x]? = some z → z.isLive = true → (μ x).block ≠ (μ b).block := fun x z hx hz hl e => hx (hr.apart b x _ z hb hz rfl hl e.symm).symm
  have hdead : ∀ (x : Nat) (z : Blk), (h.upd b .dead).bs[x]? = some z → z.isLive = true → x ≠ b ∧ h.bs[x]? = some z := fun x z hz hl => by
    by_cases hx : x = b
    · subst hx; rw [upd_same hb] at hz; simp at hz; subst hz; simp [Blk.isLive] at hl
    · rw [upd_ne hx] at hz; exact ⟨hx, hz⟩
  have hnl := hnew.1
  refine ⟨hm, by simp, ⟨fun x z hz => ?_, fun x y z z' hx hy ho hl e => ?_⟩, rfl, rfl, rfl, by simp [setBlock_size], fun r hrr => ?_, fun r i hrr ⟨x, z, hz, ho⟩ => ?_⟩
  · rcases push_some hz with ⟨l, hz⟩ | ⟨rfl, rfl⟩
    · simp at l
      rw [hm x l]
      cases hl : z.isLive with
      | false => cases z <;> simp [Blk.isLive] at hl; trivial
      | true =>
        obtain ⟨h1, h2⟩ := hdead x z hz hl
        exact ((hr.blk x z h2).congr (setBlock_ne (hne x z h1 h2 hl))).mono hm (by simp)
    · simp only [upd_len, atNew_new]
      refine ⟨_, e, fz, setBlock_same hlt, Holds.mono hm (by simp) ⟨by simp; omega, fun i v hv => ?_⟩, by simp; omega, h0, by simpa using hfz⟩
      show ∃ v' : Value, (setA C ((μ b).base + o + len * size) new')[(μ b).base + o + i]? = some v' ∧ VR μ h.len v v'
      by_cases hi : i < old.length
      · rw [List.getElem?_append_left hi] at hv
        subst hcut2
        rw [List.getElem?_take] at hv
        split at hv
        · rw [List.getElem?_drop] at hv
          obtain ⟨v', a, b⟩ := hC.2 _ v hv
          exact ⟨v', by rw [setA_other _ _ _ _ (.inl (by omega)), Nat.add_assoc]; exact a, b⟩
        · simp at hv
      · rw [List.getElem?_append_right (by omega)] at hv
        obtain ⟨v', a, hvr⟩ := hnew.2 _ v hv
        refine ⟨v', ?_, hvr⟩
        rw [show (μ b).base + o + i = (μ b).base + o + len * size + (i - old.length) from by omega]
        exact setA_get new' C _ _ v' a (by omega)
  · rcases push_some hx with ⟨lx, hx'⟩ | ⟨rfl, rfl⟩ <;> rcases push_some hy with ⟨ly, hy'⟩ | ⟨rfl, rfl⟩
    · simp at lx ly
      rw [hm x lx, hm y ly] at e
      exact hr.apart x y z z' (hdead x z hx' (Blk.own_live ho)).2 (hdead y z' hy' hl).2 ho hl e
    · simp at lx
      rw [hm x lx] at e; simp at e
      obtain ⟨h1, h2⟩ := hdead x z hx' (Blk.own_live ho)
      exact absurd e (hne x z h1 h2 (Blk.own_live ho))
    · simp at ly
      rw [hm y ly] at e; simp at e
      obtain ⟨h1, h2⟩ := hdead y z' hy' hl
      exact absurd e.symm (hne y z' h1 h2 hl)
    · rfl
  · by_cases he : r = (μ b).block
    · subst he
      rw [setBlock_same hrr, hw]
      refine ⟨fun hn => ?_, fun C1 e1 f1 h1 => ?_⟩
      · cases new' with
        | nil => rfl
        | cons v vs =>
          exact absurd (⟨b, _, hb, rfl, by omega, by simp at hnl; omega⟩ : Own μ h (μ b).block ((μ b).base + o + len * size)) (hn _)
      · simp at h1; obtain ⟨rfl, rfl, rfl⟩ := h1
        refine ⟨_, _, rfl, by simp, fun i hi => setA_other _ _ _ _ ?_⟩
        rcases Nat.lt_or_ge i ((μ b).base + o + len * size) with h' | h'
        · exact .inl h'
        · rcases Nat.lt_or_ge i ((μ b).base + o + len * size + new'.length) with h'' | h''
          · exact absurd (⟨b, _, hb, rfl, by omega, by omega⟩ : Own μ h (μ b).block i) hi
          · exact .inr h''
    · rw [setBlock_ne he]; exact .refl _ _
  · rcases push_some hz with ⟨l, hz⟩ | ⟨rfl, rfl⟩
    · simp at l
      rw [hm x l] at ho
      obtain ⟨h1, h2⟩ := hdead x z hz (Blk.own_live ho.own)
      exact ⟨x, z, h2, ho⟩
    · simp [OwnBy] at ho
      obtain ⟨h1, h2, h3⟩ := ho
      subst h1
      exact ⟨b, _, hb, rfl, by omega, by omega⟩

end
end Go.AM

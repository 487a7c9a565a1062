/-
  The abstract machine: one operation that calls nothing, in both worlds.
-/
import Derived.Test.YtejokpfeepbfeaaAmMem
namespace Go.AM
open Go.Instr (fill)

/-- The model's computation gives what the abstract one gave. -/
def Gives (P : Program) (μ : Pl) (h : Heap) (w : World) (s : Sem Value) (v : Value) (h1 : Heap) : Prop :=
  ∃ μ1 v' w1, s.run P w = .ok v' w1 ∧ VP μ1 h1.len v v' ∧ Step μ h w μ1 h1 w1

def GivesU (P : Program) (μ : Pl) (h : Heap) (w : World) (s : Sem Unit) (h1 : Heap) : Prop :=
  ∃ μ1 w1, s.run P w = .ok () w1 ∧ Step μ h w μ1 h1 w1

/-- It only reads. -/
theorem Gives.still {P : Program} {μ : Pl} {h : Heap} {w : World} (hr : HR μ h w) {s : Sem Value} {v v' : Value} (hs : s.run P w = .ok v' w) (hv : VP μ h.len v v') : Gives P μ h w s v h :=
  ⟨μ, v', w, hs, hv, .refl hr⟩

section
variable {P : Program} {μ : Pl} {h : Heap} {w : World}

theorem pureR_some {x : Option Value} {h : Heap} {out : Out} (e : pureR x h = some out) : ∃ v, x = some v ∧ out = .ret v h := by
  unfold pureR at e; split at e
  · simp at e
  · simp at e; exact ⟨_, rfl, e.symm⟩

theorem aggT_spec {t : TypeId} {g : Bool} (e : aggT P t = some g) (w : World) : (isAgg t).run P w = .ok g w := by
  unfold aggT at e
  split at e <;> simp at e <;> subst e <;> rename_i hu
  · simp [isAgg, run_underlying hu]
  · simp [isAgg, run_underlying hu]
  · rename_i d h1 h2
    simp only [isAgg, Sem.run_bind, run_underlying hu, Result.andThen_ok]
    cases d <;> first | rfl | (rename_i x; exact absurd rfl (h1 x)) | (rename_i x y; exact absurd rfl (h2 x y))
theorem und_info {t : TypeId} {d : TypeDesc} (hu : P.underlying t = some d) : ∃ i, P.info? t = some i := by
  cases hi : P.info? t with
  | none => simp [Program.underlying, hi] at hu
  | some i => exact ⟨i, rfl⟩
theorem aggT_info {t : TypeId} {g : Bool} (e : aggT P t = some g) : ∃ i, P.info? t = some i := by
  unfold aggT at e
  split at e
  · exact und_info ‹_›
  · exact und_info ‹_›
  · exact und_info ‹_›
  · simp at e
theorem run_size {t : TypeId} {i : TypeInfo} (e : P.info? t = some i) (w : World) : (sizeOf t).run P w = .ok (sizeT P t) w := by
  simp [sizeOf, typeInfo, e, sizeT, Program.cellsOf]
theorem sizeT_eq {t : TypeId} {i : TypeInfo} (e : P.info? t = some i) : sizeT P t = i.size := by simp [sizeT, Program.cellsOf, e]
theorem bytesT_eq {t : TypeId} {i : TypeInfo} (e : P.info? t = some i) : bytesT P t = i.bytes := by simp [bytesT, Program.bytesOf, e]
theorem zeroT_info {t : TypeId} {z : Value} (e : zeroT P t = some z) : ∃ i, P.info? t = some i ∧ i.zero = some z := by
  unfold zeroT at e
  cases hi : P.info? t with
  | none => simp [hi] at e
  | some i => exact ⟨i, rfl, by simpa [hi] using e⟩
theorem run_zero {t : TypeId} {z : Value} (e : zeroT P t = some z) (w : World) : (zeroValue t).run P w = .ok z w := by
  obtain ⟨i, h1, h2⟩ := zeroT_info e
  simp [zeroValue, typeInfo, h1, h2]

theorem run_loadCells {a : Addr} {cs : List Value} (w : World) (hc : ∀ j v, cs[j]? = some v → w.cell? ⟨a.block, a.off + j, none⟩ = some v) (hs : a.spot = none) :
    (loadCells a cs.length).run P w = .ok cs.toArray w := by
  obtain ⟨b, o, s⟩ := a
  simp only at hs; subst hs
  exact run_loadCells_list w _ cs fun j v hj => by rw [addr_add]; exact hc j v hj

-- loads

theorem ld1_ok (hr : HR μ h w) {p p' v : Value} (e : ld1 h p = some v) (hp : VP μ h.len p p') : ∃ a v', p' = .pointer (some a) ∧ w.cell? a = some v' ∧ VR μ h.len v v' := by
  unfold ld1 at e
  split at e
  · rename_i b o
    simp only [Option.bind_eq_some_iff] at e
    obtain ⟨c, hc, hv⟩ := e
    cases hp.clean rfl with
    | ptr b o hb =>
    obtain ⟨v', h1, h2⟩ := hr.cell hc hv
    exact ⟨_, v', rfl, h1, h2⟩
  · simp at e

theorem cut_some {c l : List Value} {o n : Nat} (e : cut c o n = some l) : o + n ≤ c.length ∧ l = (c.drop o).take n ∧ l.length = n := by
  unfold cut at e
  simp only [cond_eq_ite] at e
  split at e
  · rename_i hh; rw [Nat.ble_eq] at hh; simp at e; subst e; exact ⟨hh, rfl, by simp; omega⟩
  · simp at e

theorem row_cut (hr : HR μ h w) {b o n : Nat} {c l : List Value} (hc : h.row b = some c) (e : cut c o n = some l) :
    ∃ l', VL (VR μ h.len) l l' ∧ l'.length = n ∧ ∀ j v, l'[j]? = some v → w.cell? ⟨(μ b).block, (μ b).base + o + j, none⟩ = some v := by
  obtain ⟨h1, h2, h3⟩ := cut_some e
  obtain ⟨_, C, t, fz, k1, k2, k3⟩ := hr.row hc
  refine ⟨(C.toList.drop ((μ b).base + o)).take n, ⟨by simp; omega, fun i v hv => ?_⟩, by simp; omega, fun j v hv => ?_⟩
  · subst h2
    rw [List.getElem?_take] at hv ⊢
    split at hv
    · rename_i hi
      rw [List.getElem?_drop] at hv ⊢
      obtain ⟨v', a, b⟩ := k3 _ v hv
      rw [if_pos hi]
      refine ⟨v', ?_, b⟩
      rw [← a, ← Nat.add_assoc]; simp
    · simp at hv
  · rw [List.getElem?_take] at hv
    split at hv
    · rw [List.getElem?_drop] at hv
      exact cell_at k1 (by simpa using hv)
    · simp at hv

theorem ldN_ok (hr : HR μ h w) {n : Nat} {p p' : Value} {l : List Value} (e : ldN h n p = some l) (hp : VP μ h.len p p') :
    ∃ a l', p' = .pointer (some a) ∧ VL (VR μ h.len) l l' ∧ (loadCells a n).run P w = .ok l'.toArray w := by
  unfold ldN at e
  split at e
  · rename_i b o
    simp only [Option.bind_eq_some_iff] at e
    obtain ⟨c, hc, hv⟩ := e
    cases hp.clean rfl with
    | ptr b o hb =>
    obtain ⟨l', h1, h2, h3⟩ := row_cut hr hc hv
    refine ⟨_, l', rfl, h1, ?_⟩
    have := run_loadCells (P := P) (a := ⟨(μ b).block, (μ b).base + o, none⟩) (cs := l') w h3 rfl
    rwa [h2] at this
  · simp at e

theorem load_gives (hr : HR μ h w) {t : TypeId} {p p' : Value} {out : Out} {g : Bool} (hg : aggT P t = some g)
    (e : (bif g then ldNR h (sizeT P t) p else ldR h p) = some out) (hp : VP μ h.len p p') : ∃ v, out = .ret v h ∧ Gives P μ h w (Instr.loadAt t p') v h := by
  obtain ⟨i, hi⟩ := aggT_info hg
  cases g with
  | true =>
    simp only [cond_true, ldNR] at e
    obtain ⟨v, h1, rfl⟩ := pureR_some e
    simp only [Option.map_eq_some_iff] at h1
    obtain ⟨l, h1, rfl⟩ := h1
    obtain ⟨a, l', rfl, h2, h3⟩ := ldN_ok (P := P) hr h1 hp
    exact ⟨_, rfl, .still hr (v' := .agg l'.toArray) (by simp [Instr.loadAt, Instr.sureAddr, loadVar, aggT_spec hg, run_size hi, h3]) (.of (VR.agg_iff.2 (by simpa using h2)))⟩
  | false =>
    simp only [cond_false, ldR] at e
    obtain ⟨v, h1, rfl⟩ := pureR_some e
    obtain ⟨a, v', rfl, h2, h3⟩ := ld1_ok hr h1 hp
    exact ⟨_, rfl, .still hr (v' := v') (by simp [Instr.loadAt, Instr.sureAddr, loadVar, aggT_spec hg, h2]) (.of h3)⟩

-- stores

theorem VR.cells_one {n : Nat} {v v' : Value} (hv : VR μ n v v') (hc : cellOk v = true) : v'.cells = #[v'] := by
  cases hv <;> simp_all [cellOk, Value.cells]

theorem store_gives (hr : HR μ h w) {t : TypeId} {p p' v v' : Value} {out : Out} {g : Bool} (hg : aggT P t = some g)
    (e : (bif g then stNR h (sizeT P t) p v else bif Nat.beq (sizeT P t) 1 then stR h p v else none) = some out) (hp : VP μ h.len p p') (hv : VP μ h.len v v') :
    ∃ h1, out = .ret undef h1 ∧ GivesU P μ h w (Instr.storeAt t p' v') h1 := by
  obtain ⟨i, hi⟩ := aggT_info hg
  cases g with
  | true =>
    simp only [cond_true, stNR] at e
    split at e
    · rename_i cs
      simp only [cond_eq_ite] at e
      split at e
      · rename_i hs
        simp only [Option.bind_eq_some_iff, Option.some.injEq] at e
        obtain ⟨h1, h2, rfl⟩ := e
        have hv := hv.clean rfl
        cases hv with
        | agg _ cs' hsz hh =>
        have hl : VL (VR μ h.len) cs.toList cs'.toList := VR.agg_iff.1 (.agg _ cs' hsz hh)
        obtain ⟨a, w1, rfl, h3, h4⟩ := stL_ok (P := P) hr h2 hp (hl.mono fun _ _ => .of)
        refine ⟨h1, rfl, μ, w1, ?_, h4⟩
        have : cs'.size = sizeT P t := by rw [← hsz]; exact Nat.eq_of_beq_eq_true hs
        simp [Instr.storeAt, Instr.sureAddr, storeVar, run_size hi, Value.cells, this, h3]
      · simp at e
    · simp at e
  | false =>
    simp only [cond_false] at e
    simp only [cond_eq_ite] at e
    split at e
    · rename_i hs
      have hs := Nat.eq_of_beq_eq_true hs
      simp only [stR, Option.bind_eq_some_iff, Option.some.injEq] at e
      obtain ⟨h1, h2, rfl⟩ := e
      have hc : cellOk v = true := by
        unfold stL at h2; split at h2
        · split at h2
          · simp only [cond_eq_ite] at h2; split at h2
            · rename_i hc; simp [cellsOk] at hc; exact hc.2
            · simp at h2
          · simp at h2
        · simp at h2
      have hv' : VR μ h.len v v' := by
        rcases hv with rfl | hv
        · simp [cellOk, Go.undef] at hc
        · exact hv
      obtain ⟨a, w1, rfl, h3, h4⟩ := stL_ok (P := P) (vs' := [v']) hr h2 hp (.cons hv (.nil _))
      refine ⟨h1, rfl, μ, w1, ?_, h4⟩
      simp [Instr.storeAt, Instr.sureAddr, storeVar, run_size hi, hv'.cells_one hc, hs, h3]
    · simp at e

-- new blocks

theorem newR_gives (hr : HR μ h w) {c c' : List Value} {out : Out} (e : newR h c = some out) (hv : VL (VP μ h.len) c c') (t : TypeId) :
    ∃ v h1, out = .ret v h1 ∧ ∃ μ1, VR μ1 h1.len v (.pointer (some ⟨w.heap.size, 0, none⟩)) ∧ Step μ h w μ1 h1 (w.alloc (.cells c'.toArray t)) := by
  simp only [newR, cond_eq_ite] at e
  split at e
  · rename_i hc
    simp at e; subst e
    have hv : VL (VR μ h.len) c c' := ⟨hv.1, fun i v hi => by
      obtain ⟨v', a, b⟩ := hv.2 i v hi
      refine ⟨v', a, ?_⟩
      rcases b with rfl | b
      · have := cellsOk_mem hc (List.mem_of_getElem? hi); simp [cellOk, Go.undef] at this
      · exact b⟩
    refine ⟨_, _, rfl, _, ?_, Step.newRow hr t hv⟩
    have := VR.ptr (μ := atNew μ h.len ⟨w.heap.size, 0, 0⟩) (n := (h.push (.cells c 0 false)).len) h.len 0 (by simp)
    simpa using this
  · simp at e

theorem cellsV_VL {n : Nat} {v v' : Value} (hv : VR μ n v v') : VL (VR μ n) (cellsV v) v'.cells.toList := by
  cases hv with
  | agg c c' hs hh => exact VR.agg_iff.1 (.agg c c' hs hh)
  | _ => exact .cons (by constructor <;> assumption) (.nil _)

theorem box_gives (hr : HR μ h w) {t : TypeId} {v v' : Value} {out : Out} (e : boxR (sizeT P t) h v = some out) (hv : VP μ h.len v v') :
    ∃ u h1, out = .ret u h1 ∧ Gives P μ h w (Instr.box t v') u h1 := by
  simp only [boxR, cond_eq_ite] at e
  split at e
  · have hv : VR μ h.len v v' := by
      rcases hv with rfl | hv
      · simp [newR, cellsV, cellsOk, cellOk, Go.undef] at e
      · exact hv
    obtain ⟨u, h1, rfl, μ1, h2, h3⟩ := newR_gives hr e ((cellsV_VL hv).mono fun _ _ => .of) t
    refine ⟨u, h1, rfl, μ1, _, _, ?_, .of h2, h3⟩
    simp [Instr.box, newVar, newRow]
  · simp at e

end
end Go.AM

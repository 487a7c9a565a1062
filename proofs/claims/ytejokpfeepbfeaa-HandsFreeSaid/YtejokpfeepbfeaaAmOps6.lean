/-
  The abstract machine: append, copy, clear, in both worlds (the laws).
-/
import Derived.Test.YtejokpfeepbfeaaAmOps5
namespace Go.AM

section
variable {P : Program} {μ : Pl} {h : Heap} {w : World}

theorem elemsOf_zero {size : Nat} {x : Value} {l : List Value} (e : elemsOf h size 0 x = some l) : l = [] := by
  unfold elemsOf at e; split at e
  · simp only [cond_eq_ite] at e
    split at e
    · simp only [Option.bind_eq_some_iff] at e
      obtain ⟨c, _, hc⟩ := e
      have := (cut_some hc).2.2
      simp at this; exact this
    · simp at e
  · simp at e; first | exact e | exact e.symm
  · simp [Nat.ble] at e; first | exact e | exact e.symm
  · simp at e

theorem elemsOf_slice {size n len cap : Nat} {a : Option Addr} {l : List Value} (e : elemsOf h size n (.slice a len cap) = some l) : l.length = n * size := by
  unfold elemsOf at e; split at e
  · simp only [cond_eq_ite] at e
    split at e
    · simp only [Option.bind_eq_some_iff] at e
      obtain ⟨c, _, hc⟩ := e
      exact (cut_some hc).2.2
    · simp at e
  · simp only [cond_eq_ite] at e
    split at e
    · rename_i hn; have := Nat.eq_of_beq_eq_true hn; simp at e; subst e; subst this; simp
    · simp at e
  · rename_i hh; simp at hh
  · simp at e

theorem app_gives (hr : HR μ h w) {ts : Array TypeId} {t u e ty : TypeId} {z : List Value} {s x s' x' : Value} {out : Out}
    (h0 : ts[0]? = some t) (h1 : ts[1]? = some u) (he : elemT P t = some e) (hz : zeroC P e = some z) (hu : isSeqT P u = true)
    (eq : appR (sizeT P e) (bytesT P e) h s x = some out) (hs : VP μ h.len s s') (hx : VP μ h.len x x') :
    ∃ v h2, out = .ret v h2 ∧ Gives P μ h w (Builtin.append_ ts ty #[s', x']) v h2 := by
  obtain ⟨zv, i, hi, hiz, hcs, hcst, hzl, hsz, _⟩ := zeroC_spec hz
  obtain ⟨d, hd1, hd2⟩ := seqT_spec hu
  have hue := elemT_spec he
  rw [hsz, bytesT_eq hi] at eq
  unfold appR at eq
  split at eq
  · rename_i base len cap
    simp only [Option.bind_eq_some_iff] at eq
    obtain ⟨n, hn, new, hnew, eq⟩ := eq
    have hln := lenOf_ok (P := P) (w := w) hn hx
    obtain ⟨new', hf, hvl⟩ := firstCells_ok (P := P) hr hnew hx
    simp only [cond_eq_ite] at eq
    split at eq
    · rename_i hroom
      rw [Nat.ble_eq] at hroom
      split at eq
      · rename_i a hnew0
        simp at eq; subst eq
        have hn' := hvl.isNil; subst hn'
        have hst : ∀ (w : World) (a : Addr), some a = some a → (storeCells (a.add (len * i.size)) (#[] : Array Value).toList).run P w = .ok () w := fun w a _ => rfl
        cases hs.clean rfl with
        | slice b o _ _ hb =>
          exact ⟨_, _, rfl, .still hr (run_append_room' h0 h1 hue hd1 hd2 hi hln hf (Nat.le_trans hroom (Nat.le_add_right _ _)) (fun a ha => by simp [storeCells]) (fun hh => by simp at hh)) (.of (.slice _ _ _ _ hb))⟩
        | empty b o a' hb =>
          have hn0 : n = 0 := by omega
          subst hn0
          exact ⟨_, _, rfl, .still hr (run_append_room' h0 h1 hue hd1 hd2 hi hln hf hroom (fun a ha => by simp [storeCells]) (fun hh => by simp at hh)) (.of (.empty _ _ _ hb))⟩
      · rename_i b o v vs _
        simp only [Option.bind_eq_some_iff, Option.some.injEq] at eq
        obtain ⟨h2, hst, rfl⟩ := eq
        cases hs.clean rfl with
        | slice _ _ _ _ hb =>
          obtain ⟨a, w1, ha, h3, h4⟩ := stL_ok (P := P) hr hst (.of (.ptr _ _ hb)) (hvl.mono fun _ _ => .of)
          simp at ha; subst ha
          refine ⟨_, _, rfl, μ, _, w1, run_append_room' h0 h1 hue hd1 hd2 hi hln hf (Nat.le_trans hroom (Nat.le_add_right _ _)) (fun a ha => ?_) (fun hh => by simp at hh), .of (h4.vr (.slice _ _ _ _ hb)), h4⟩
          simp at ha; subst ha
          rw [addr_add, Nat.add_assoc]; exact h3
        | empty => 
          have hn0 : n = 0 := by omega
          subst hn0
          have := elemsOf_zero hnew; simp at this
      · split at eq
        · rename_i hz0
          have hz0 := Nat.eq_of_beq_eq_true hz0
          simp at eq; subst eq
          have hl0 : len = 0 := by omega
          have hn0 : n = 0 := by omega
          subst hl0; subst hn0
          cases hs.clean rfl
          exact ⟨_, _, rfl, .still hr (run_append_room' h0 h1 hue hd1 hd2 hi hln hf hroom (fun a ha => by simp at ha) (fun _ => rfl)) (.of (.nilslice _ _))⟩
        · simp at eq
      · simp at eq
    · rename_i hroom
      rw [Nat.ble_eq] at hroom
      split at eq
      · rename_i hc
        simp only [Bool.and_eq_true, Nat.ble_eq] at hc
        obtain ⟨⟨⟨⟨hby, h63⟩, hck⟩, hsz1⟩, hnl⟩ := hc
        have hnl : new.length = n * i.size := Nat.eq_of_beq_eq_true hnl
        simp only [Option.bind_eq_some_iff, Option.some.injEq] at eq
        obtain ⟨old, hold, str, hstr, rfl⟩ := eq
        refine ⟨_, _, rfl, ?_⟩
        have hsv := hs.clean rfl
        -- a new row
        have grow : ∀ base' cap', s' = .slice base' len cap' → cap' < len + n → Gives P μ h w (Builtin.append_ ts ty #[s', x']) (.slice (some ⟨h.len, 0, none⟩) (len + n) (len + n)) ((h.kill base).push (.cells (old ++ new) i.size str)) := by
          intro base' cap' hs' hlt
          subst hs'
          obtain ⟨old', g1, g2⟩ := firstCells_ok (P := P) (w := w.drew) hr.drew hold hs
          obtain ⟨new2, g3, g4⟩ := firstCells_ok (P := P) (w := w.drew) hr.drew hnew hx
          have hrun := run_append_grow' (ty := ty) h0 h1 hue hd1 hd2 hi hiz hln g1 g3 hlt hby h63
          have hge := grownCap_ge w (len + n) cap' e
          have st1 := kill_step hr.drew base
          refine ⟨_, _, _, hrun, .of ?_, (st1.trans (Step.alloc st1.hr (y := .cells (old ++ new) i.size str) (o := .cells (old'.toArray ++ new2.toArray ++ Builtin.zeroCells zv.cells (grownCap w (len + n) cap' e - (len + n))) e)
            (base := 0) (extra := grownCap w (len + n) cap' e - (len + n)) ?_)).of_drew⟩
          · have := VR.slice (μ := atNew μ h.len ⟨w.heap.size, 0, grownCap w (len + n) cap' e - (len + n)⟩) (n := ((h.kill base).push (.cells (old ++ new) i.size str)).len) h.len 0 (len + n) (len + n) (by simp)
            simp only [atNew_new, Nat.add_zero] at this
            rw [show len + n + (grownCap w (len + n) cap' e - (len + n)) = grownCap w (len + n) cap' e from by omega] at this
            simpa using this
          · refine ⟨_, e, (0, 0), alloc_get, ?_, ?_, fun hk => by omega, .inl rfl⟩
            · have := Holds.of_list (g2.append g4) (Builtin.zeroCells zv.cells (grownCap w (len + n) cap' e - (len + n))).toList
              have e2 : (old' ++ new2 ++ (Builtin.zeroCells zv.cells (grownCap w (len + n) cap' e - (len + n))).toList).toArray = old'.toArray ++ new2.toArray ++ Builtin.zeroCells zv.cells (grownCap w (len + n) cap' e - (len + n)) := by
                apply Array.ext'; simp
              rw [← e2, kill_len]; exact this
            · have h1 := g2.1; have h2 := g4.1
              simp [zeroCells_size, hcs, hzl, h1, h2]
        cases hsv with
        | nilslice => exact grow none cap rfl (by omega)
        | empty b o a' hb => exact grow (some a') 0 rfl (by omega)
        | slice b o _ _ hb =>
          by_cases hlt : cap + (μ b).extra < len + n
          · exact grow _ _ rfl hlt
          · -- in place
            have hex : (μ b).extra ≠ 0 := by omega
            simp only [roomOf] at hstr
            split at hstr
            · rename_i c k sb hbk
              simp only [cond_eq_ite] at hstr
              split at hstr
              · rename_i hks
                simp only [Bool.and_eq_true, Bool.or_eq_true, Nat.ble_eq] at hks
                simp at hstr; subst hstr
                obtain ⟨C, te, fz, k1, k2, k3, k4, k5⟩ := hr.blk b _ hbk
                have hk0 : k ≠ 0 := fun e => hex (k4 e)
                have hk : k = i.size := by
                  rcases hks.1 with hh | hh
                  · exact absurd (Nat.eq_of_beq_eq_true hh) hk0
                  · exact Nat.eq_of_beq_eq_true hh
                subst hk
                have hcut : cut c o (len * i.size) = some old := by
                  have hold' := hold
                  simp only [elemsOf, cond_eq_ite] at hold'
                  split at hold'
                  · simp only [Option.bind_eq_some_iff] at hold'
                    obtain ⟨c', hc', hh⟩ := hold'
                    simp only [Heap.row, hbk] at hc'
                    simp at hc'; subst hc'; exact hh
                  · simp at hold'
                have hreg := Step.regrow hr hbk k1 k2 k3 k5 hcut hvl (extra1 := cap + (μ b).extra - (len + n)) (by
                  have hle := hks.2
                  have e1 : o + len * i.size + n * i.size + (cap + (μ b).extra - (len + n)) * i.size = o + cap * i.size + (μ b).extra * i.size := by
                    have : len + n + (cap + (μ b).extra - (len + n)) = cap + (μ b).extra := by omega
                    rw [Nat.add_assoc o, ← Nat.add_mul, Nat.add_assoc o, ← Nat.add_mul, this, Nat.add_mul, Nat.add_assoc]
                  rw [hnl, e1]; omega) (by omega)
                have hkill : h.kill (some ⟨b, o, none⟩) = h.upd b .dead := by simp [Heap.kill, hbk]
                rw [hkill]
                refine ⟨_, _, _, run_append_room' (w1 := setBlock w (μ b).block (.cells (setA C ((μ b).base + o + len * i.size) new') te fz)) h0 h1 hue hd1 hd2 hi hln hf (by omega) (fun a ha => ?_) (fun hh => by simp at hh), .of ?_, hreg⟩
                · simp at ha; subst ha
                  rw [addr_add]
                  have hvn := hvl.1
                  have := run_stores (P := P) (μ b).block te fz ((μ b).base + o + len * i.size) new' 0 C w k1 (by
                    have hle := hks.2
                    have : len * i.size + n * i.size ≤ cap * i.size + (μ b).extra * i.size := by rw [← Nat.add_mul, ← Nat.add_mul]; exact Nat.mul_le_mul_right _ (by omega)
                    omega) (fun j _ hj => by
                    have hle := hks.2
                    have : len * i.size + n * i.size ≤ cap * i.size + (μ b).extra * i.size := by rw [← Nat.add_mul, ← Nat.add_mul]; exact Nat.mul_le_mul_right _ (by omega)
                    rcases k5 with rfl | ⟨_, rfl⟩ <;> simp <;> omega) (fun v hv => by
                    obtain ⟨u, hu1, hu2⟩ := hvl.mem_right hv
                    exact hu2.oneCell (cellsOk_mem hck hu1))
                  simpa using this
                · have := VR.slice (μ := atNew μ h.len ⟨(μ b).block, (μ b).base + o, cap + (μ b).extra - (len + n)⟩) (n := ((h.upd b .dead).push (.cells (old ++ new) i.size sb)).len) h.len 0 (len + n) (len + n) (by simp)
                  simp only [atNew_new, Nat.add_zero] at this
                  rwa [show len + n + (cap + (μ b).extra - (len + n)) = cap + (μ b).extra from by omega] at this
              · simp at hstr
            · rename_i c hbk
              obtain ⟨_, _, _, _, _, hx0⟩ := hr.blk b _ hbk
              exact absurd hx0 hex
            · simp at hstr
      · simp at eq
  · simp at eq

end
end Go.AM

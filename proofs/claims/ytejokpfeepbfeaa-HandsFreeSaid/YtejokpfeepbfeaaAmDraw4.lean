/-
  The abstract machine: a region that draws its order (the law for the walk).
-/
import Derived.Test.YtejokpfeepbfeaaAmDraw3
namespace Go.AM

theorem Li_set {listed : Array Bool} {j i : Nat} (hj : j < listed.size) : Li (listed.setIfInBounds j true) i ↔ Li listed i ∨ i = j := by
  unfold Li
  by_cases h : j = i
  · subst h; simp [hj]
  · rw [getD_set_ne false h]
    constructor
    · exact .inl
    · rintro (h' | h')
      · exact h'
      · exact absurd h'.symm h

theorem not_Li {listed : Array Bool} {j : Nat} (h : listed.getD j true = false) : ¬ Li listed j ∧ j < listed.size := by
  have hj : j < listed.size := by
    rcases Nat.lt_or_ge j listed.size with h' | h'
    · exact h'
    · simp [Array.getElem?_eq_none h'] at h
  refine ⟨fun hl => ?_, hj⟩
  unfold Li at hl
  simp [hj] at h hl
  rw [h] at hl; simp at hl

section
variable {P : Program} {C : Cfg} {callR : FuncId → List Value → Heap → Res} {ops : Array Oper} {pl : Plan} {μ0 : Pl} {h0 : Heap} {w0 : World} {N : Nat} {Q : Exit → Act → World → Prop}

theorem draw_any (F : PlanFacts P ops pl) {T : Nat → Env} {H : Nat → Heap} {V : Nat → Value} (R : Ran P C callR ops pl ops.size T H V) (hC : C.Ok P) (hcall : CallsOk P C callR) (hgl0 : GL C μ0 h0.len)
    (hd : ∀ o ∈ ops.toList, ∀ x, o.dst = some x → x < N) (hp : ∀ v h, PanOk μ0 h0 w0 (.ret v h) Q) (hend : ∀ a w, At μ0 h0 w0 N (T ops.size) (H ops.size) a w → Q .normal a w) :
    ∀ (fuel : Nat) (listed : Array Bool) (a : Act) (w : World), listed.size = ops.size → ((List.range ops.size).filter fun i => !listed.getD i false).length ≤ fuel →
      (∀ j, Li listed j → ∀ e ∈ (opAt ops j).after, Region.binds .any e = true → Li listed e.on) → (∃ p, ChainAt P ops pl listed p ∧ At μ0 h0 w0 N (ES ops pl.ord (T 0) V listed) (H p) a w) →
      wpAny P .any ops Q fuel listed a w := by
  -- behind the last
  have done : ∀ (listed : Array Bool) (a : Act) (w : World), listed.size = ops.size → (∀ i, i < ops.size → Li listed i) → (∃ p, ChainAt P ops pl listed p ∧ At μ0 h0 w0 N (ES ops pl.ord (T 0) V listed) (H p) a w) → Q .normal a w := by
    rintro listed a w hs hall ⟨p, hc, hat⟩
    refine hend a w ?_
    have hH : H p = H ops.size := ChainAt.same R hc ⟨Nat.le_refl _, fun q i hq _ => ⟨fun _ => by rw [← F.len]; exact (List.getElem?_eq_some_iff.1 hq).1, fun _ => hall i (F.lt hq)⟩⟩ F.len
    have hE : ES ops pl.ord (T 0) V listed = T ops.size := by
      funext x
      rcases R.tval F.len ops.size (Nat.le_refl _) x with ⟨q, i, h1, h2, h3, h4⟩ | ⟨h1, h2⟩
      · rw [h4]; exact (F.es_writer h2 h3).1 (hall i (F.lt h2))
      · rw [h2]; exact es_none fun q i hq => h1 q i (by rw [← F.len]; exact (List.getElem?_eq_some_iff.1 hq).1) hq
    rw [hH, hE] at hat; exact hat
  -- nobody is ready: all are listed
  have full : ∀ (listed : Array Bool), listed.size = ops.size → Region.ready .any ops listed = [] → ∀ i, i < ops.size → Li listed i := by
    intro listed hs hr
    have key : ∀ (q i : Nat), pl.ord[q]? = some i → Li listed i := by
      intro q
      induction q using Nat.strongRecOn with
      | _ q ih =>
        intro i hi
        refine Classical.byContradiction fun hn => ?_
        have hin := F.lt hi
        have : i ∈ Region.ready .any ops listed := by
          rw [mem_ready]
          refine ⟨by unfold Li at hn; simp [hs, hin] at hn ⊢; exact hn, opAt ops i, opAt_eq hin, fun e he hb => ?_⟩
          obtain ⟨h1, h2⟩ := F.edge hin e he hb
          obtain ⟨r, hr'⟩ := F.pos h2
          rcases Nat.lt_trichotomy r q with h | h | h
          · exact ih r h _ hr'
          · subst h; rw [hi] at hr'; simp at hr'
            rw [← hr', F.irr hin] at h1; simp at h1
          · have := F.pair hi hr' h
            simp only [pairOk, Bool.and_eq_true, Bool.not_eq_true'] at this
            rw [h1] at this; simp at this
        rw [hr] at this; simp at this
    intro i hi
    obtain ⟨q, hq⟩ := F.pos hi
    exact key q i hq
  intro fuel
  induction fuel with
  | zero =>
    intro listed a w hs hcnt hdc hinv
    have hall : ∀ i, i < ops.size → Li listed i := fun i hi => by
      refine Classical.byContradiction fun hn => ?_
      have : i ∈ (List.range ops.size).filter fun i => !listed.getD i false := by
        simp only [List.mem_filter, List.mem_range, Bool.not_eq_true']
        exact ⟨hi, by unfold Li at hn; simpa using hn⟩
      have := List.length_pos_of_mem this
      omega
    refine ⟨?_, done listed a w hs hall hinv⟩
    refine List.eq_nil_iff_forall_not_mem.2 fun j hj => ?_
    rw [mem_ready] at hj
    obtain ⟨h1, h2⟩ := not_Li hj.1
    exact h1 (hall j (by omega))
  | succ fuel ih =>
    intro listed a w hs hcnt hdc hinv
    refine ⟨fun hr => done listed a w hs (full listed hs hr) hinv, fun j hj => ?_⟩
    rw [mem_ready] at hj
    obtain ⟨hj0, o, ho, hready⟩ := hj
    obtain ⟨hjn, hjs⟩ := not_Li hj0
    have hjlt : j < ops.size := by omega
    have hoj : o = opAt ops j := by rw [opAt_eq hjlt] at ho; simpa using ho.symm
    subst hoj
    obtain ⟨p, hc, hat⟩ := hinv
    obtain ⟨q, hq⟩ := F.pos hjlt
    obtain ⟨p', hc', hH, h1, hg, hch, hnc⟩ := ready_same F R hdc hq hjn (fun e he hb => hready e he hb) hc
    rw [← hH] at hat
    refine gopR_wp hC hcall hgl0 ho hg hat (hd _ (List.mem_of_getElem? (by rw [Array.getElem?_toList]; exact ho))) (fun v h2 hout v' w1 μ1 hs1 hv her => ?_) (hp _ _)
    simp at hout; obtain ⟨rfl, rfl⟩ := hout
    refine ih _ _ _ (by simpa using hs) ?_ ?_ ?_
    · have : ((List.range ops.size).filter fun i => !(listed.setIfInBounds j true).getD i false).length < ((List.range ops.size).filter fun i => !listed.getD i false).length := by
        refine filter_lt (fun x _ hx => ?_) ⟨j, by simpa using hjlt, by unfold Li at hjn; simpa using hjn, by have := (Li_set (i := j) hjs).2 (.inr rfl); unfold Li at this; rw [this]; rfl⟩
        simp only [Bool.not_eq_true'] at hx ⊢
        cases hh : listed.getD x false with
        | false => rfl
        | true =>
          have := (Li_set (i := x) hjs).2 (.inl hh)
          unfold Li at this; rw [this] at hx; simp at hx
      omega
    · intro k hk e he hb
      rw [Li_set hjs] at hk ⊢
      rcases hk with hk | rfl
      · exact .inl (hdc k hk e he hb)
      · exact .inl (hready e he hb)
    · have hES : ES ops pl.ord (T 0) V (listed.setIfInBounds j true) = put (ES ops pl.ord (T 0) V listed) (opAt ops j).dst (V q) := by
        funext x
        by_cases hx : (opAt ops j).dst = some x
        · rw [(F.es_writer hq hx).1 ((Li_set hjs).2 (.inr rfl)), hx]; simp [put]
        · have hput : put (ES ops pl.ord (T 0) V listed) (opAt ops j).dst (V q) x = ES ops pl.ord (T 0) V listed x := by
            cases hdd : (opAt ops j).dst with
            | none => rfl
            | some d =>
              simp only [put, cond_eq_ite]
              rw [if_neg]
              intro hh; exact hx (by rw [hdd, Nat.eq_of_beq_eq_true hh])
          rw [hput]
          by_cases hw : ∃ r i : Nat, pl.ord[r]? = some i ∧ (opAt ops i).dst = some x
          · obtain ⟨r, i, h3, h4⟩ := hw
            have hne : i ≠ j := fun e => by subst e; exact hx h4
            by_cases hl : Li listed i
            · rw [(F.es_writer h3 h4).1 hl, (F.es_writer h3 h4).1 ((Li_set hjs).2 (.inl hl))]
            · rw [(F.es_writer h3 h4).2 hl, (F.es_writer h3 h4).2 (fun hh => by rcases (Li_set hjs).1 hh with hh | hh; exact hl hh; exact hne hh)]
          · rw [es_none fun r i h3 h4 => hw ⟨r, i, h3, h4⟩, es_none fun r i h3 h4 => hw ⟨r, i, h3, h4⟩]
      rw [hES]
      cases hcj : isChain (clsT P (opAt ops j)) with
      | false =>
        have := hnc hcj; subst this
        refine ⟨p', ⟨hc'.1, fun r i hr hci => ?_⟩, μ1, hs1, her⟩
        rw [Li_set hjs]
        constructor
        · rintro (hl | rfl)
          · exact (hc'.2 r i hr hci).1 hl
          · rw [hcj] at hci; simp at hci
        · exact fun h => .inl ((hc'.2 r i hr hci).2 h)
      | true =>
        obtain ⟨rfl, rfl⟩ := hch hcj
        have hqn : p' < ops.size := by rw [← F.len]; exact (List.getElem?_eq_some_iff.1 hq).1
        refine ⟨p' + 1, ⟨by omega, fun r i hr hci => ?_⟩, μ1, hs1, her⟩
        rw [Li_set hjs]
        constructor
        · rintro (hl | rfl)
          · have := (hc'.2 r i hr hci).1 hl; omega
          · have := F.inj hr hq; omega
        · intro h
          by_cases hrp : r = p'
          · subst hrp; rw [hq] at hr; simp at hr; exact .inr hr.symm
          · exact .inl ((hc'.2 r i hr hci).2 (by omega))

/-- A region that draws its order. -/
theorem draw_wp (hm : P.follows .mixedOrders = true) (hpl : planOk P ops pl = true) (hC : C.Ok P) (hcall : CallsOk P C callR) (hgl0 : GL C μ0 h0.len) {out : Out} {K : Env → Heap → Res}
    (hK : ∀ t h a w, K t h = some out → At μ0 h0 w0 N t h a w → Q .normal a w) {id : Nat} {t : Env} {h : Heap} {a : Act} {w : World}
    (hd : ∀ o ∈ ops.toList, ∀ x, o.dst = some x → x < N) (e : planR P C callR ops pl K pl.ord [] t h = some out) (hat : At μ0 h0 w0 N t h a w) : (Code.region id ops true).wp P Q a w := by
  have F := planOk_facts hpl
  obtain ⟨T, H, V, R, hT, hH, hKe⟩ := planR_ran (P := P) (C := C) (callR := callR) (ops := ops) (pl := pl) pl.ord 0 (fun _ => t) (fun _ => h) (fun _ => undef) [] rfl
    ⟨fun p i hp => by omega, fun p i hp => by omega, fun p i hp => by omega, fun p i hp => by omega⟩ (fun e h he => by simp [heapOf] at he) e
  rw [Nat.zero_add, F.len] at R hKe
  refine wp_region_any hm (draw_any F R hC hcall hgl0 hd (fun v h v1 h1 hh => by simp at hh) (fun a w hat => hK _ _ a w hKe hat) ops.size _ a w.drew (by simp) ?_ ?_ ?_)
  · refine Nat.le_trans (List.length_filter_le _ _) (by simp)
  · intro j hj
    unfold Li at hj
    exfalso
    by_cases hjs : j < ops.size <;> simp [hjs] at hj
  · refine ⟨0, ⟨Nat.zero_le _, fun q i _ _ => ⟨fun hj => ?_, fun h => by omega⟩⟩, ?_⟩
    · unfold Li at hj
      exfalso
      by_cases hjs : i < ops.size <;> simp [hjs] at hj
    · have hES : ES ops pl.ord (T 0) V (Array.replicate ops.size false) = t := by
        funext x
        unfold ES
        rw [dif_neg, hT]
        rintro ⟨q, i, _, _, hj⟩
        unfold Li at hj
        by_cases hjs : i < ops.size <;> simp [hjs] at hj
      rw [hES, hH]
      obtain ⟨μ, hs, he⟩ := hat
      exact ⟨μ, hs.drew, he⟩

end
end Go.AM

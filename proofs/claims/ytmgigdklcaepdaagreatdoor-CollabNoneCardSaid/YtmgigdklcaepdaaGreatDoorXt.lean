/-
  Regions that draw their order: one step; all. · A region whose operations are renumbered.
-/
import Derived.Test.YtmgigdklcaepdaaGreatDoorXs
set_option linter.unusedVariables false
set_option linter.unusedSimpArgs false
section
namespace Go.Proofs.YtmgigdklcaepdaaGreatDoor.Ax
set_option linter.unusedVariables false
set_option linter.unusedSimpArgs false

section
variable {P : Program} {gl : Fixed} {ops : Array Oper} {nt : Nat} {sc0 : Sc} {H0 : Heap} {n : Nat} {t : Tr} {s : Wk}
variable {ρ0 ρ : Ren} {w0 w : World} {S : Nat → Prop} {nx : Nat} {a : Act} {k : Nat}

/-- One that neither makes nor writes. -/
theorem Inv.quiet (iv : Inv P gl ops nt sc0 H0 n t ρ0 w0 S nx a w ρ) (g : Good P gl ops nt sc0 H0 n t s) (hk : k < n) (hS : ¬ S k) (hc : Cl ops S k) {o : Oper} (ho : ops[k]? = some o) (h1 : ¬ (t.kd k).isAct) (h2 : ¬ (t.kd k).isNew) {cv : Value} (hv : VRel (t.R S ρ (max k nx)) (t.v k) cv) :
    Inv P gl ops nt sc0 H0 n t ρ0 w0 (fun i => S i ∨ i = k) nx (a.put o.dst cv) w ρ := by
  have hR : ∀ j, t.R (fun i => S i ∨ i = k) ρ j = t.R S ρ j := by
    intro j
    funext b
    cases hb : t.R S ρ j b with
    | some L =>
      rw [R_some] at hb ⊢
      refine ⟨hb.1, fun k' q1 q2 q3 => ?_⟩
      rcases q1 with q1 | q1
      · exact hb.2 k' q1 q2 q3
      · subst q1; exact (h2 q3).elim
    | none =>
      cases hb' : t.R (fun i => S i ∨ i = k) ρ j b with
      | none => rfl
      | some L =>
        rw [R_some] at hb'
        have : t.R S ρ j b = some L := R_some.mpr ⟨hb'.1, fun k' q1 => hb'.2 k' (.inl q1)⟩
        rw [hb] at this; cases this
  obtain ⟨p1, p2, p3, p4⟩ := iv.puts g hk hS ho (X := fun j => t.R S ρ j) (nx' := nx) (fun i hi => Ren.le_refl _) (Ren.le_refl _) hv
  refine ⟨iv.closed hc, fun i hi => ?_, iv.nx_le, iv.nx_act, fun q => ?_, fun j hj ha => .inl (iv.acts j hj ha), ?_, ?_, fun k' q1 q2 q3 => iv.nw k' q1 q2 (fun q => q3 (.inl q)), ?_, ?_, ?_, ?_, ?_, p3, p4⟩
  · rcases hi with hi | hi
    · exact iv.lt i hi
    · rw [hi]; exact hk
  · rcases q with q | q
    · exact iv.nx_not q
    · have := iv.nx_act (by omega); rw [q] at this; exact h1 this
  · rw [hR]; exact iv.hr
  · rw [hR]; exact iv.dom
  · intro k' ob q1 q2 q3
    rcases q1 with q1 | q1
    · rw [hR, hR]; exact iv.fl k' ob q1 q2 q3
    · subst q1; rw [q3] at h2; exact (h2 trivial).elim
  · intro k1 k2 L L' q1 q2 q3 q4 q5 q6 q7
    rcases q1 with q1 | q1
    · rcases q2 with q2 | q2
      · exact iv.fl2 k1 k2 L L' q1 q2 q3 q4 q5 q6 q7
      · subst q2; exact (h2 q7).elim
    · subst q1; exact (h2 q6).elim
  · rw [hR]; exact iv.grow
  · intro i hi o' ho' d hd hlt hlast; rw [hR]; exact p1 i hi o' ho' d hd hlt hlast
  · intro d v hv0 hno; rw [hR]; exact p2 d v hv0 hno

theorem Push.old {ob : Obj} {w w' : World} (h : Push ob w w') {c : Nat} (hc : c < w.heap.size) : w'.heap[c]? = w.heap[c]? := by
  rw [h.heap, Array.getElem?_push, if_neg (by omega)]
theorem Push.size {ob : Obj} {w w' : World} (h : Push ob w w') : w'.heap.size = w.heap.size + 1 := by rw [h.heap]; simp

/-- A new block, ahead of the next effect or not. -/
theorem Inv.make (iv : Inv P gl ops nt sc0 H0 n t ρ0 w0 S nx a w ρ) (g : Good P gl ops nt sc0 H0 n t s) (hgl : ∀ x o, (x, o) ∈ gl → x < w0.heap.size) (hk : k < n) (hS : ¬ S k) (hc : Cl ops S k) {o : Oper} (ho : ops[k]? = some o) {ob : AObj} (hn : t.kd k = .new ob) {w' : World} {obj : Obj} (hp : Push obj w w') {tot : Nat} {σ : Ren}
    (hσ : (σ.set (t.hp k).next ⟨w.heap.size, 0, tot⟩).le (t.R (fun i => S i ∨ i = k) (ρ.set (t.hp k).next ⟨w.heap.size, 0, tot⟩) (max k nx)))
    (hO : ObjRel (σ.set (t.hp k).next ⟨w.heap.size, 0, tot⟩) w' ⟨w.heap.size, 0, tot⟩ ob) {cv : Value} (hv : VRel (σ.set (t.hp k).next ⟨w.heap.size, 0, tot⟩) (t.v k) cv) :
    Inv P gl ops nt sc0 H0 n t ρ0 w0 (fun i => S i ∨ i = k) nx (a.put o.dst cv) w' (ρ.set (t.hp k).next ⟨w.heap.size, 0, tot⟩) := by
  have hnk : (t.kd k).isNew := by rw [hn]; trivial
  have hnx : k ≠ nx := by
    intro e
    have := iv.nx_act (by omega)
    rw [← e, hn] at this; exact this
  have hρk : ρ (t.hp k).next = none := iv.nw k hk hnk hS
  have hset : ∀ b L, (ρ.set (t.hp k).next ⟨w.heap.size, 0, tot⟩) b = some L → (b = (t.hp k).next ∧ L = ⟨w.heap.size, 0, tot⟩) ∨ (b ≠ (t.hp k).next ∧ ρ b = some L) := by
    intro b L hb
    unfold Ren.set at hb
    split at hb
    · rename_i e; injection hb with hb; exact .inl ⟨e, hb.symm⟩
    · rename_i e; exact .inr ⟨e, hb⟩
  have idne : ∀ k', S k' → (t.kd k').isNew → (t.hp k').next ≠ (t.hp k).next := fun k' h1 h2 e => by
    have := g.inj (iv.lt k' h1) hk h2 hnk e
    exact hS (this ▸ h1)
  -- the renamings grow
  have mono : ∀ j, nx ≤ j → (t.R S ρ j).le (t.R (fun i => S i ∨ i = k) (ρ.set (t.hp k).next ⟨w.heap.size, 0, tot⟩) j) := by
    intro j hj b L hb
    rw [R_some] at hb ⊢
    have hne : b ≠ (t.hp k).next := fun e => by rw [e, hρk] at hb; cases hb.1
    refine ⟨by unfold Ren.set; rw [if_neg hne]; exact hb.1, fun k' q1 q2 q3 => ?_⟩
    rcases q1 with q1 | q1
    · exact hb.2 k' q1 q2 q3
    · rw [q1]; exact hne
  have inv : ∀ j b L, nx ≤ j → t.R (fun i => S i ∨ i = k) (ρ.set (t.hp k).next ⟨w.heap.size, 0, tot⟩) j b = some L → (b = (t.hp k).next ∧ L = ⟨w.heap.size, 0, tot⟩ ∧ k ≤ j) ∨ t.R S ρ j b = some L := by
    intro j b L hj hb
    rw [R_some] at hb
    rcases hset b L hb.1 with ⟨e1, e2⟩ | ⟨e1, e2⟩
    · refine .inl ⟨e1, e2, ?_⟩
      rcases Nat.lt_or_ge j k with q | q
      · exact absurd e1 (hb.2 k (.inr rfl) q hnk)
      · exact q
    · exact .inr (R_some.mpr ⟨e2, fun k' q1 => hb.2 k' (.inl q1)⟩)
  have sz := hp.size
  have gs := iv.grow.size
  obtain ⟨p1, p2, p3, p4⟩ := iv.puts g hk hS ho (X := fun j => t.R (fun i => S i ∨ i = k) (ρ.set (t.hp k).next ⟨w.heap.size, 0, tot⟩) j) (nx' := nx) (fun i hi => mono _ (by omega)) (mono nx (Nat.le_refl _)) (hv.mono hσ)
  have hold : ∀ b L, t.R S ρ nx b = some L → L.c < w.heap.size := fun b L hb => iv.hr.inn b L hb
  -- no effect between it and the next one, where it comes before that one
  have noact : k < nx → ∀ p, k < p → p < nx → ¬ (t.kd p).isAct := by
    intro hlt p q1 q2 hact
    have := g.ord p (by have := iv.nx_le; omega) hact k q1 (.inr hnk)
    exact hS (g.anc iv.cl (by have := iv.nx_le; omega) (iv.cl p (iv.acts p q2 hact)) this)
  have hHR : HR gl (t.hp nx).f (t.R (fun i => S i ∨ i = k) (ρ.set (t.hp k).next ⟨w.heap.size, 0, tot⟩) nx) w' := by
    have stayO : ∀ b L o, t.R S ρ nx b = some L → (t.hp nx).f b = some o → ObjRel (t.R (fun i => S i ∨ i = k) (ρ.set (t.hp k).next ⟨w.heap.size, 0, tot⟩) nx) w' L o := fun b L o hb ho =>
      (iv.hr.obj b L o hb ho).stay (mono nx (Nat.le_refl _)) (hp.old (hold b L hb))
    refine ⟨fun b L o hb ho => ?_, fun b b' L L' hne hb hb' l l' => ?_, fun b L hb => ?_, fun x o hg => ⟨?_, fun b L hb l => ?_⟩⟩
    · rcases inv nx b L (Nat.le_refl _) hb with ⟨e1, e2, e3⟩ | q
      · have hlt : k < nx := by omega
        rw [e1, g.segNew hlt iv.nx_le (noact hlt) hn] at ho
        injection ho with ho; subst ho e2
        refine hO.stay ?_ rfl
        rw [show max k nx = nx by omega] at hσ
        exact hσ
      · exact stayO b L o q ho
    · rcases inv nx b L (Nat.le_refl _) hb with ⟨e1, e2, e3⟩ | q <;> rcases inv nx b' L' (Nat.le_refl _) hb' with ⟨e1', e2', e3'⟩ | q'
      · exact absurd (e1.trans e1'.symm) hne
      · have := hold b' L' q'; rw [e2]; show w.heap.size ≠ L'.c; omega
      · have := hold b L q; rw [e2']; show L.c ≠ w.heap.size; omega
      · exact iv.hr.sep b b' L L' hne q q' l l'
    · rcases inv nx b L (Nat.le_refl _) hb with ⟨e1, e2, e3⟩ | q
      · rw [e2, sz]; exact Nat.lt_succ_self _
      · have := hold b L q; omega
    · have := hgl x o hg
      rw [hp.old (by omega)]; exact (iv.hr.fixd x o hg).1
    · rcases inv nx b L (Nat.le_refl _) hb with ⟨e1, e2, e3⟩ | q
      · have := hgl x o hg; rw [e2]; show w.heap.size ≠ x; omega
      · exact (iv.hr.fixd x o hg).2 b L q l
  have hk_lt : k < nx → (t.hp k).next < (t.hp nx).next := fun h => g.lt iv.nx_le h hnk
  have hk_ge : nx < k → (t.hp nx).next ≤ (t.hp k).next := fun h => g.le (by omega) (by omega)
  refine ⟨iv.closed hc, fun i hi => ?_, iv.nx_le, iv.nx_act, fun q => ?_, fun j hj ha => .inl (iv.acts j hj ha), hHR, ?_, ?_, ?_, ?_, ?_, p1, p2, p3, p4⟩
  · rcases hi with hi | hi
    · exact iv.lt i hi
    · rw [hi]; exact hk
  · rcases q with q | q
    · exact iv.nx_not q
    · exact hnx q.symm
  · intro b hb
    cases hx : t.R (fun i => S i ∨ i = k) (ρ.set (t.hp k).next ⟨w.heap.size, 0, tot⟩) nx b with
    | none => rfl
    | some L =>
      rcases inv nx b L (Nat.le_refl _) hx with ⟨e1, e2, e3⟩ | q
      · have := hk_lt (by omega); omega
      · rw [iv.dom b hb] at q; cases q
  · intro k' q1 q2 q3
    have : (t.hp k').next ≠ (t.hp k).next := fun e => q3 (.inr (g.inj q1 hk q2 hnk e))
    unfold Ren.set
    rw [if_neg this]
    exact iv.nw k' q1 q2 (fun q => q3 (.inl q))
  · intro k' ob' q1 q2 q3
    have hnk' : (t.kd k').isNew := by rw [q3]; trivial
    by_cases hkk : k' = k
    · subst hkk
      rw [hn] at q3; injection q3 with q3; subst q3
      rw [show max k' nx = k' by omega] at hσ
      refine ⟨w.heap.size, tot, by simp [Ren.set], hO.stay hσ rfl, by omega, gs, fun b L hb l => ?_⟩
      rcases inv nx b L (Nat.le_refl _) hb with ⟨e1, e2, e3⟩ | q
      · omega
      · have := hold b L q; omega
    · have q1 : S k' := q1.resolve_right hkk
      obtain ⟨c, tt, r1, r2, r3, r4, r5⟩ := iv.fl k' ob' q1 q2 q3
      refine ⟨c, tt, ?_, r2.stay (mono k' (by omega)) (hp.old r3), by omega, r4, fun b L hb l => ?_⟩
      · unfold Ren.set; rw [if_neg (idne k' q1 hnk')]; exact r1
      · rcases inv nx b L (Nat.le_refl _) hb with ⟨e1, e2, e3⟩ | q
        · rw [e2]; show w.heap.size ≠ c; omega
        · exact r5 b L q l
  · intro k1 k2 L L' q1 q2 q3 q4 q5 q6 q7 q8 q9
    have flt : ∀ k', S k' → nx < k' → (t.kd k').isNew → ∀ L, (ρ.set (t.hp k).next ⟨w.heap.size, 0, tot⟩) (t.hp k').next = some L → ρ (t.hp k').next = some L ∧ L.c < w.heap.size := by
      intro k' r1 r2 r3 L r4
      rcases hset _ L r4 with ⟨e1, _⟩ | ⟨_, e2⟩
      · exact absurd e1 (idne k' r1 r3)
      · obtain ⟨ob2, r3⟩ := Kd.new_of r3
        obtain ⟨c, tt, f1, _, f3, _⟩ := iv.fl k' ob2 r1 r2 r3
        rw [e2] at f1; injection f1 with f1; subst f1; exact ⟨e2, f3⟩
    have self : ∀ L, (ρ.set (t.hp k).next ⟨w.heap.size, 0, tot⟩) (t.hp k).next = some L → L.c = w.heap.size := by
      intro L h
      rcases hset _ L h with ⟨_, e⟩ | ⟨e, _⟩
      · rw [e]
      · exact absurd rfl e
    by_cases e1 : k1 = k
    · by_cases e2 : k2 = k
      · exact absurd (e1.trans e2.symm) q5
      · rw [e1] at q8
        have h1 := self L q8
        have h2 := flt k2 (q2.resolve_right e2) q4 q7 L' q9
        omega
    · have h1 := flt k1 (q1.resolve_right e1) q3 q6 L q8
      by_cases e2 : k2 = k
      · rw [e2] at q9; have h2 := self L' q9; omega
      · have h2 := flt k2 (q2.resolve_right e2) q4 q7 L' q9
        exact iv.fl2 k1 k2 L L' (q1.resolve_right e1) (q2.resolve_right e2) q3 q4 q5 q6 q7 h1.1 h2.1
  · have G := iv.grow
    refine ⟨Ren.le_trans G.le (mono nx (Nat.le_refl _)), G.nx, fun b L hb h0 => ?_, G.keep, fun c hc hno => ?_, by omega, hp.tape.trans G.tape, hp.os.trans G.os, hp.out.trans G.out⟩
    · rcases inv nx b L (Nat.le_refl _) hb with ⟨e1, e2, e3⟩ | q
      · rw [e1, e2]
        refine ⟨?_, hk_lt (by omega), .inl gs⟩
        have := g.le (i := 0) (j := k) (by omega) (by omega)
        rw [g.h0] at this; exact this
      · exact G.new b L q h0
    · rw [hp.old (by omega)]; exact G.same c hc hno

theorem next_act (t : Tr) (n : Nat) : ∀ m i, i ≤ n → n - i = m → ∃ x, i ≤ x ∧ x ≤ n ∧ (x < n → (t.kd x).isAct) ∧ ∀ j, i ≤ j → j < x → ¬ (t.kd j).isAct := by
  intro m
  induction m with
  | zero => intro i hi hm; exact ⟨i, Nat.le_refl _, hi, fun h => by omega, fun j h1 h2 => by omega⟩
  | succ m ih =>
    intro i hi hm
    by_cases h : (t.kd i).isAct
    · exact ⟨i, Nat.le_refl _, hi, fun _ => h, fun j h1 h2 => by omega⟩
    · obtain ⟨x, h1, h2, h3, h4⟩ := ih (i + 1) (by omega) (by omega)
      refine ⟨x, by omega, h2, h3, fun j q1 q2 => ?_⟩
      by_cases e : j = i
      · rw [e]; exact h
      · exact h4 j (by omega) q2

/-- Behind the next effect. -/
theorem Inv.pass (iv : Inv P gl ops nt sc0 H0 n t ρ0 w0 S nx a w ρ) (g : Good P gl ops nt sc0 H0 n t s) (hgl : ∀ x o, (x, o) ∈ gl → x < w0.heap.size) (hk : nx < n) (hc : Cl ops S nx) {o : Oper} (ho : ops[nx]? = some o) {w1 : World} {ρ1 : Ren}
    (g1 : Grow (t.hp nx).f (t.R S ρ nx) w (t.hp nx).next (t.hp (nx + 1)).f ρ1 w1 (t.hp (nx + 1)).next) (hr1 : HR gl (t.hp (nx + 1)).f ρ1 w1) {cv : Value} (hv : VRel ρ1 (t.v nx) cv) :
    ∃ nx' ρ', Inv P gl ops nt sc0 H0 n t ρ0 w0 (fun i => S i ∨ i = nx) nx' (a.put o.dst cv) w1 ρ' := by
  obtain ⟨nx', hn1, hn2, hn3, hn4⟩ := next_act t n _ (nx + 1) (by omega) rfl
  have hactk := iv.nx_act hk
  have dom1 : Dom ρ1 (t.hp (nx + 1)).next := iv.dom.grow g1
  have idge : ∀ k, nx < k → k < n → (t.hp (nx + 1)).next ≤ (t.hp k).next := fun k h1 h2 => g.le (by omega) (by omega)
  have notnx : ∀ k, (t.kd k).isNew → k ≠ nx := fun k h e => by rw [e, Kd.act_of hactk] at h; exact h
  have notnx' : ∀ k, k < n → (t.kd k).isNew → k ≠ nx' := fun k hkn h e => by rw [e] at h hkn; rw [Kd.act_of (hn3 hkn)] at h; exact h
  have inS : ∀ k, (S k ∨ k = nx) → (t.kd k).isNew → S k := fun k h h2 => h.resolve_right (notnx k h2)
  let ρ' : Ren := open Classical in fun b => if ∃ k, S k ∧ nx < k ∧ (t.kd k).isNew ∧ b = (t.hp k).next then ρ b else ρ1 b
  have ρf : ∀ k, S k → nx < k → (t.kd k).isNew → ρ' (t.hp k).next = ρ (t.hp k).next := fun k h1 h2 h3 => if_pos ⟨k, h1, h2, h3, rfl⟩
  have ρn : ∀ b, (∀ k, S k → nx < k → (t.kd k).isNew → b ≠ (t.hp k).next) → ρ' b = ρ1 b := fun b hb => if_neg (fun ⟨k, h1, h2, h3, h4⟩ => hb k h1 h2 h3 h4)
  -- what is known before is known behind
  have up : ∀ i j, nx ≤ i → i ≤ j → nx' ≤ j → (t.R S ρ i).le (t.R (fun i => S i ∨ i = nx) ρ' j) := by
    intro i j h1 h2 h3 b L hb
    rw [R_some] at hb ⊢
    refine ⟨?_, fun k q1 q2 q3 => hb.2 k (inS k q1 q3) (by omega) q3⟩
    by_cases hf : ∃ k, S k ∧ nx < k ∧ (t.kd k).isNew ∧ b = (t.hp k).next
    · obtain ⟨k, r1, r2, r3, r4⟩ := hf
      rw [r4, ρf k r1 r2 r3, ← r4]; exact hb.1
    · have hnf : ∀ k, S k → nx < k → (t.kd k).isNew → b ≠ (t.hp k).next := fun k r1 r2 r3 r4 => hf ⟨k, r1, r2, r3, r4⟩
      rw [ρn b hnf]
      exact g1.le b L (R_some.mpr ⟨hb.1, hnf⟩)
  have old1 : ∀ b L, ρ1 b = some L → b < (t.hp (nx + 1)).next := fun b L hb => by
    rcases Nat.lt_or_ge b (t.hp (nx + 1)).next with q | q
    · exact q
    · rw [dom1 b q] at hb; cases hb
  have nof1 : ∀ b L, ρ1 b = some L → ∀ k, S k → nx < k → (t.kd k).isNew → b ≠ (t.hp k).next := fun b L hb k h1 h2 h3 e => by
    have := old1 b L hb
    have := idge k h2 (iv.lt k h1)
    omega
  have le1 : ρ1.le (t.R (fun i => S i ∨ i = nx) ρ' nx') := by
    intro b L hb
    refine R_some.mpr ⟨by rw [ρn b (nof1 b L hb)]; exact hb, fun k q1 q2 q3 => nof1 b L hb k (inS k q1 q3) (by omega) q3⟩
  have inv1 : ∀ b L, t.R (fun i => S i ∨ i = nx) ρ' nx' b = some L → ρ1 b = some L ∨ ∃ k, S k ∧ nx < k ∧ k < nx' ∧ (t.kd k).isNew ∧ b = (t.hp k).next ∧ ρ b = some L := by
    intro b L hb
    rw [R_some] at hb
    by_cases hf : ∃ k, S k ∧ nx < k ∧ (t.kd k).isNew ∧ b = (t.hp k).next
    · obtain ⟨k, r1, r2, r3, r4⟩ := hf
      have h1 := hb.1
      rw [r4, ρf k r1 r2 r3, ← r4] at h1
      refine .inr ⟨k, r1, r2, ?_, r3, r4, h1⟩
      rcases Nat.lt_or_ge k nx' with q | q
      · exact q
      · have := notnx' k (iv.lt k r1) r3
        exact absurd r4 (hb.2 k (.inl r1) (by omega) r3)
    · rw [ρn b (fun k r1 r2 r3 r4 => hf ⟨k, r1, r2, r3, r4⟩)] at hb
      exact .inl hb.1
  have segO : ∀ b L, ρ1 b = some L → (t.hp nx').f b = (t.hp (nx + 1)).f b := by
    intro b L hb
    refine g.seg hn1 hn2 (fun p h1 h2 => hn4 p h1 h2) b fun k h1 h2 h3 e => ?_
    have := old1 b L hb
    have := idge k (by omega) (by omega)
    omega
  have lvO : ∀ b L, ρ1 b = some L → live (t.hp nx').f b → live (t.hp (nx + 1)).f b := fun b L hb ⟨x, hx, hd⟩ => ⟨x, by rw [← segO b L hb]; exact hx, hd⟩
  -- the blocks made ahead stay apart
  have sepF : ∀ b L, ρ1 b = some L → live (t.hp (nx + 1)).f b → ∀ k ob, S k → nx < k → t.kd k = .new ob → ∀ L', ρ (t.hp k).next = some L' → L.c ≠ L'.c := by
    intro b L hb l k ob h1 h2 h3 L' hL'
    obtain ⟨c, tot, f1, _, f3, _, f5⟩ := iv.fl k ob h1 h2 h3
    rw [hL'] at f1; injection f1 with f1; subst f1
    show L.c ≠ c
    cases h0 : t.R S ρ nx b with
    | some L0 =>
      have := g1.le b L0 h0
      rw [hb] at this; injection this with this; subst this
      exact f5 b _ h0 (g1.keep b _ h0 l)
    | none =>
      rcases (g1.new b L hb h0).2.2 with q | ⟨b', L2, r1, r2, r3⟩
      · omega
      · rw [← r3]; exact f5 b' L2 r1 r2
  have stayF : ∀ k ob, S k → nx < k → t.kd k = .new ob → ∀ j, k ≤ j → nx' ≤ j → ∀ L', ρ (t.hp k).next = some L' → ObjRel (t.R (fun i => S i ∨ i = nx) ρ' j) w1 L' ob ∧ L'.c < w1.heap.size ∧ w0.heap.size ≤ L'.c ∧ L'.d = 0 := by
    intro k ob h1 h2 h3 j h4 h5 L' hL'
    obtain ⟨c, tot, f1, f2, f3, f4, f5⟩ := iv.fl k ob h1 h2 h3
    rw [hL'] at f1; injection f1 with f1; subst f1
    have e := g1.same c f3 (fun b L hb l => f5 b L hb l)
    exact ⟨f2.stay (up k j (by omega) h4 h5) e, by have := g1.size; show c < _; omega, f4, rfl⟩
  have hHR : HR gl (t.hp nx').f (t.R (fun i => S i ∨ i = nx) ρ' nx') w1 := by
    refine ⟨fun b L o hb ho => ?_, fun b b' L L' hne hb hb' l l' => ?_, fun b L hb => ?_, fun x o hg => ⟨(hr1.fixd x o hg).1, fun b L hb l => ?_⟩⟩
    · rcases inv1 b L hb with q | ⟨k, r1, r2, r3, r4, r5, r6⟩
      · rw [segO b L q] at ho
        exact (hr1.obj b L o q ho).stay le1 rfl
      · obtain ⟨ob, r4⟩ := Kd.new_of r4
        rw [r5, g.segNew r3 hn2 (fun p h1 h2 => hn4 p (by omega) h2) r4] at ho
        injection ho with ho; subst ho
        exact (stayF k ob r1 r2 r4 nx' (by omega) (Nat.le_refl _) L (r5 ▸ r6)).1
    · rcases inv1 b L hb with q | ⟨k, r1, r2, r3, r4, r5, r6⟩ <;> rcases inv1 b' L' hb' with q' | ⟨k', r1', r2', r3', r4', r5', r6'⟩
      · exact hr1.sep b b' L L' hne q q' (lvO b L q l) (lvO b' L' q' l')
      · obtain ⟨ob, r4'⟩ := Kd.new_of r4'
        exact sepF b L q (lvO b L q l) k' ob r1' r2' r4' L' (r5' ▸ r6')
      · obtain ⟨ob, r4⟩ := Kd.new_of r4
        exact (sepF b' L' q' (lvO b' L' q' l') k ob r1 r2 r4 L (r5 ▸ r6)).symm
      · exact iv.fl2 k k' L L' r1 r1' r2 r2' (fun e => hne (by rw [r5, r5', e])) r4 r4' (r5 ▸ r6) (r5' ▸ r6')
    · rcases inv1 b L hb with q | ⟨k, r1, r2, r3, r4, r5, r6⟩
      · exact hr1.inn b L q
      · obtain ⟨ob, r4⟩ := Kd.new_of r4
        exact (stayF k ob r1 r2 r4 nx' (by omega) (Nat.le_refl _) L (r5 ▸ r6)).2.1
    · rcases inv1 b L hb with q | ⟨k, r1, r2, r3, r4, r5, r6⟩
      · exact (hr1.fixd x o hg).2 b L q (lvO b L q l)
      · obtain ⟨ob, r4⟩ := Kd.new_of r4
        have := (stayF k ob r1 r2 r4 nx' (by omega) (Nat.le_refl _) L (r5 ▸ r6)).2.2.1
        have := hgl x o hg
        omega
  have idlt : ∀ k, k < nx' → (t.kd k).isNew → (t.hp k).next < (t.hp nx').next := fun k h1 h2 => g.lt hn2 h1 h2
  have nxle : (t.hp (nx + 1)).next ≤ (t.hp nx').next := g.le hn1 hn2
  have G1 := iv.grow.trans g1
  obtain ⟨p1, p2, p3, p4⟩ := iv.puts g hk iv.nx_not ho (X := fun j => t.R (fun i => S i ∨ i = nx) ρ' j) (nx' := nx') (fun i hi => up _ _ (by omega) (by omega) (by omega)) (up _ _ (Nat.le_refl _) (by omega) (Nat.le_refl _)) (hv.mono (Ren.le_trans le1 (R_le (by omega))))
  refine ⟨nx', ρ', iv.closed hc, fun i hi => ?_, hn2, hn3, fun q => ?_, fun j hj ha => ?_, hHR, ?_, ?_, ?_, ?_, ?_, p1, p2, p3, p4⟩
  · rcases hi with hi | hi
    · exact iv.lt i hi
    · rw [hi]; exact hk
  · rcases q with q | q
    · have hlt := iv.lt nx' q
      exact iv.nx_not (g.anc iv.cl hlt (iv.cl nx' q) (g.ord nx' hlt (hn3 hlt) nx (by omega) (.inl hactk)))
    · omega
  · rcases Nat.lt_trichotomy j nx with h | h | h
    · exact .inl (iv.acts j h ha)
    · exact .inr h
    · exact absurd ha (hn4 j (by omega) hj)
  · intro b hb
    cases hx : t.R (fun i => S i ∨ i = nx) ρ' nx' b with
    | none => rfl
    | some L =>
      rcases inv1 b L hx with q | ⟨k, r1, r2, r3, r4, r5, r6⟩
      · have := old1 b L q; omega
      · have := idlt k r3 r4; omega
  · intro k q1 q2 q3
    have hSk : ¬ S k := fun q => q3 (.inl q)
    rw [ρn _ (fun k' r1 r2 r3 e => hSk (g.inj q1 (iv.lt k' r1) q2 r3 e ▸ r1))]
    cases hx : ρ1 (t.hp k).next with
    | none => rfl
    | some L =>
      have h1 := old1 _ L hx
      have hkn : k < nx := by
        rcases Nat.lt_trichotomy k nx with h | h | h
        · exact h
        · exact absurd h (notnx k q2)
        · have := idge k h q1; omega
      have h0 : t.R S ρ nx (t.hp k).next = none := by
        cases hy : t.R S ρ nx (t.hp k).next with
        | none => rfl
        | some L2 => rw [R_some, iv.nw k q1 q2 hSk] at hy; cases hy.1
      have := (g1.new _ L hx h0).1
      have := g.lt iv.nx_le hkn q2
      omega
  · intro k ob q1 q2 q3
    have hnk : (t.kd k).isNew := by rw [q3]; trivial
    have q1 := inS k q1 hnk
    obtain ⟨c, tot, f1, _⟩ := iv.fl k ob q1 (by omega) q3
    obtain ⟨s1, s2, s3, s4⟩ := stayF k ob q1 (by omega) q3 k (Nat.le_refl _) (by omega) _ f1
    refine ⟨c, tot, by rw [ρf k q1 (by omega) hnk]; exact f1, s1, s2, s3, fun b L hb l => ?_⟩
    rcases inv1 b L hb with q | ⟨k', r1, r2, r3, r4, r5, r6⟩
    · exact sepF b L q (lvO b L q l) k ob q1 (by omega) q3 _ f1
    · exact iv.fl2 k' k L _ r1 q1 r2 (by omega) (by omega) r4 hnk (r5 ▸ r6) f1
  · intro k1 k2 L L' q1 q2 q3 q4 q5 q6 q7 q8 q9
    have q1 := inS k1 q1 q6
    have q2 := inS k2 q2 q7
    rw [ρf k1 q1 (by omega) q6] at q8
    rw [ρf k2 q2 (by omega) q7] at q9
    exact iv.fl2 k1 k2 L L' q1 q2 (by omega) (by omega) q5 q6 q7 q8 q9
  · refine ⟨Ren.le_trans G1.le le1, Nat.le_trans G1.nx nxle, fun b L hb h0 => ?_, fun b L hb l => ?_, G1.same, G1.size, G1.tape, G1.os, G1.out⟩
    · rcases inv1 b L hb with q | ⟨k, r1, r2, r3, r4, r5, r6⟩
      · obtain ⟨x1, x2, x3⟩ := G1.new b L q h0
        exact ⟨x1, by omega, x3⟩
      · have hid := idlt k r3 r4
        obtain ⟨ob, r4⟩ := Kd.new_of r4
        have := (stayF k ob r1 r2 r4 nx' (by omega) (Nat.le_refl _) L (r5 ▸ r6)).2.2.1
        refine ⟨?_, by rw [r5]; exact hid, .inl this⟩
        have := g.le (i := 0) (j := k) (by omega) (by have := iv.lt k r1; omega)
        rw [g.h0] at this
        rw [r5]; exact this
    · exact G1.keep b L hb (lvO b L (G1.le b L hb) l)

/-- One step, whichever may come. -/
theorem Inv.step (iv : Inv P gl ops nt sc0 H0 n t ρ0 w0 S nx a w ρ) (g : Good P gl ops nt sc0 H0 n t s) (hgl : ∀ x o, (x, o) ∈ gl → x < w0.heap.size) (hk : k < n) (hS : ¬ S k) (hc : Cl ops S k) {K : Act → World → Prop} {Q : Exit → Act → World → Prop}
    (hK : ∀ a' w' nx' ρ', Inv P gl ops nt sc0 H0 n t ρ0 w0 (fun i => S i ∨ i = k) nx' a' w' ρ' → K a' w') : wpOp P ops Q k K a w := by
  obtain ⟨o, ho, he, hap, hsc, hf⟩ := g.op k hk
  have tr := iv.trel g hk hS hc ho
  cases hkd : t.kd k with
  | pure =>
    rw [hkd] at hf
    obtain ⟨cv, h1, h2⟩ := hf.2 w _ a tr
    exact h2 k K Q ho (hK _ _ _ _ (iv.quiet g hk hS hc ho (by rw [hkd]; exact id) (by rw [hkd]; exact id) h1))
  | read =>
    have hrd : (t.kd k).isRead := by rw [hkd]; trivial
    rw [hkd] at hf
    have key : ∃ cv, VRel (t.R S ρ (max k nx)) (t.v k) cv ∧ ∀ i K Q, ops[i]? = some o → K (a.put o.dst cv) w → wpOp P ops Q i K a w := by
      rcases Nat.lt_trichotomy k nx with h | h | h
      · rw [show max k nx = nx by omega] at tr ⊢
        by_cases hex : ∃ p, k < p ∧ p < nx ∧ (t.kd p).isAct
        · -- the last effect before the next one
          have last : ∀ m, ∀ q, q < nx → nx - q ≤ m → k < q → (t.kd q).isAct → ∃ p, k < p ∧ p < nx ∧ (t.kd p).isAct ∧ ∀ j, p + 1 ≤ j → j < nx → ¬ (t.kd j).isAct := by
            intro m
            induction m with
            | zero => intro q h1 h2; omega
            | succ m ih =>
              intro q h1 h2 h3 h4
              by_cases hh : ∃ j, q + 1 ≤ j ∧ j < nx ∧ (t.kd j).isAct
              · obtain ⟨j, r1, r2, r3⟩ := hh
                exact ih j r2 (by omega) (by omega) r3
              · exact ⟨q, h3, h1, h4, fun j r1 r2 r3 => hh ⟨j, r1, r2, r3⟩⟩
          obtain ⟨q, q1, q2, q3⟩ := hex
          obtain ⟨p, p1, p2, p3, p4⟩ := last nx q q2 (by omega) q1 q3
          have hpn : p < n := by have := iv.nx_le; omega
          have hb : (t.m p).testBit k = false := by
            cases hb : (t.m p).testBit k with
            | false => rfl
            | true => exact (hS (g.anc iv.cl hpn (iv.cl p (iv.acts p p2 p3)) hb)).elim
          have hF := g.rdA k hrd p p1 hpn p3 hb o ho
          exact hF.2 w _ a (g.back (by omega) iv.nx_le p4 iv.hr) tr
        · exact hf.2 w _ a (g.back (by omega) iv.nx_le (fun p h1 h2 h3 => hex ⟨p, by
            rcases Nat.lt_or_ge k p with q | q
            · exact q
            · have : p = k := by omega
              rw [this, hkd] at h3; exact h3.elim, h2, h3⟩) iv.hr) tr
      · subst h
        have := iv.nx_act hk
        rw [hkd] at this; exact this.elim
      · rw [show max k nx = k by omega] at tr ⊢
        have hact := iv.nx_act (by omega)
        have hb : (t.m k).testBit nx = false := by
          cases hb : (t.m k).testBit nx with
          | false => rfl
          | true => exact (iv.nx_not (g.anc iv.cl hk hc hb)).elim
        have hF := g.rdB k hk hrd nx h hact hb o ho
        exact hF.2 w _ a (iv.wide g (by omega)) tr
    obtain ⟨cv, h1, h2⟩ := key
    exact h2 k K Q ho (hK _ _ _ _ (iv.quiet g hk hS hc ho (by rw [hkd]; exact id) (by rw [hkd]; exact id) h1))
  | new ob =>
    have hnk : (t.kd k).isNew := by rw [hkd]; trivial
    rw [hkd] at hf
    have hρk : ρ (t.hp k).next = none := iv.nw k hk hnk hS
    have hnone : t.R S ρ (max k nx) (t.hp k).next = none := by
      cases hx : t.R S ρ (max k nx) (t.hp k).next with
      | none => rfl
      | some L => rw [R_some, hρk] at hx; cases hx.1
    obtain ⟨cv, w', tot, obj, h1, h2, h3, h4⟩ := hf.2 w _ a hnone tr
    refine h4 k K Q ho (hK _ _ _ _ (iv.make g hgl hk hS hc ho hkd h1 ?_ h2 h3))
    intro b L hb
    unfold Ren.set at hb
    rw [R_some]
    split at hb
    · rename_i e
      subst e
      refine ⟨by unfold Ren.set; rw [if_pos rfl]; exact hb, fun k' q1 q2 q3 e => ?_⟩
      rcases q1 with q1 | q1
      · exact hS (g.inj hk (iv.lt k' q1) hnk q3 e ▸ q1)
      · omega
    · rename_i e
      rw [R_some] at hb
      refine ⟨by unfold Ren.set; rw [if_neg e]; exact hb.1, fun k' q1 q2 q3 => ?_⟩
      rcases q1 with q1 | q1
      · exact hb.2 k' q1 q2 q3
      · rw [q1]; exact e
  | act =>
    have hact : (t.kd k).isAct := by rw [hkd]; trivial
    have hknx : k = nx := by
      rcases Nat.lt_trichotomy k nx with h | h | h
      · exact (hS (iv.acts k h hact)).elim
      · exact h
      · exact (iv.nx_not (g.anc iv.cl hk hc (g.ord k hk hact nx h (.inl (iv.nx_act (by omega)))))).elim
    subst hknx
    rw [hkd] at hf
    rw [show max k k = k by omega] at tr
    exact hf w _ a iv.hr iv.dom tr k K Q ho fun cv ρ1 w1 g1 hr1 hv => by
      obtain ⟨nx', ρ', iv'⟩ := iv.pass g hgl hk hc ho g1 hr1 hv
      exact hK _ _ _ _ iv'

end

end Go.Proofs.YtmgigdklcaepdaaGreatDoor.Ax
end
section
namespace Go.Proofs.YtmgigdklcaepdaaGreatDoor.Ax
set_option linter.unusedVariables false
set_option linter.unusedSimpArgs false

variable {P : Program}

def renOp (is : List Nat) (o : Oper) : Oper := { o with after := o.after.map fun e => { e with on := is.idxOf e.on }, guard := o.guard.map fun p => (is.idxOf p.1, p.2) }
def permOps (is : List Nat) (ops : Array Oper) : Array Oper := (is.filterMap fun i => (ops[i]?).map (renOp is)).toArray
/-- The list is an order of the operations. -/
structure IsPerm (is : List Nat) (ops : Array Oper) : Prop where
  size : (permOps is ops).size = ops.size
  get : ∀ p, p < ops.size → ∃ i, is[p]? = some i ∧ i < ops.size ∧ is.idxOf i = p ∧ (permOps is ops)[p]? = (ops[i]?).map (renOp is)
  put : ∀ i, i < ops.size → is.idxOf i < ops.size ∧ is[is.idxOf i]? = some i
  out : ∀ i, ops.size ≤ i → ops.size ≤ is.idxOf i

theorem mem_readyP {ops : Array Oper} {listed : Array Bool} (hs : listed.size = ops.size) {i : Nat} : i ∈ Region.ready .any ops listed ↔ i < ops.size ∧ listed.getD i false = false ∧ ∃ o, ops[i]? = some o ∧ ∀ e ∈ o.after.toList, Region.binds .any e = true → listed.getD e.on false = true := by
  unfold Region.ready
  rw [List.mem_filter, List.mem_range]
  constructor
  · rintro ⟨h1, h2⟩
    rw [Bool.and_eq_true] at h2
    obtain ⟨h2, h3⟩ := h2
    refine ⟨h1, ?_, ?_⟩
    · have : listed.getD i true = listed.getD i false := by simp [Array.getD, hs, h1]
      rw [← this]; simpa using h2
    · cases ho : ops[i]? with
      | none => rw [ho] at h3; cases h3
      | some o =>
        rw [ho] at h3
        refine ⟨o, rfl, fun e he hb => ?_⟩
        have h3 : (o.after.all fun e => !Region.binds .any e || listed.getD e.on false) = true := h3
        rw [← Array.all_toList] at h3
        have := List.all_eq_true.mp h3 e he
        rw [hb] at this
        simpa using this
  · rintro ⟨h1, h2, o, ho, h3⟩
    refine ⟨h1, ?_⟩
    rw [Bool.and_eq_true]
    refine ⟨?_, ?_⟩
    · have : listed.getD i true = listed.getD i false := by simp [Array.getD, hs, h1]
      rw [this, h2]; rfl
    · rw [ho]
      show (o.after.all fun e => !Region.binds .any e || listed.getD e.on false) = true
      rw [← Array.all_toList]
      refine List.all_eq_true.mpr fun e he => ?_
      cases hb : Region.binds .any e with
      | false => rfl
      | true => rw [h3 e he hb]; rfl

/-- What is listed, seen from both sides. -/
def Seen (is : List Nat) (n : Nat) (listed listed' : Array Bool) : Prop := ∀ i, i < n → listed'.getD (is.idxOf i) false = listed.getD i false

theorem seen_on {is : List Nat} {ops : Array Oper} (hp : IsPerm is ops) {listed listed' : Array Bool} (h1 : listed.size = ops.size) (h2 : listed'.size = ops.size) (hs : Seen is ops.size listed listed') (i : Nat) : listed'.getD (is.idxOf i) false = listed.getD i false := by
  by_cases hi : i < ops.size
  · exact hs i hi
  · have := hp.out i (by omega)
    simp [Array.getD, h1, h2, hi, show ¬ is.idxOf i < ops.size by omega]

theorem ready_perm {is : List Nat} {ops : Array Oper} (hp : IsPerm is ops) {listed listed' : Array Bool} (h1 : listed.size = ops.size) (h2 : listed'.size = ops.size) (hs : Seen is ops.size listed listed') {i : Nat} (hi : i < ops.size) :
    is.idxOf i ∈ Region.ready .any (permOps is ops) listed' ↔ i ∈ Region.ready .any ops listed := by
  rw [mem_readyP h1, mem_readyP (by rw [h2, hp.size]), hp.size, hs i hi]
  obtain ⟨p1, p2⟩ := hp.put i hi
  obtain ⟨i', q1, q2, q3, q4⟩ := hp.get _ p1
  have : i' = i := by rw [p2] at q1; exact (Option.some.inj q1).symm
  subst this
  rw [q4]
  constructor
  · rintro ⟨_, a, o, ho, hb⟩
    refine ⟨hi, a, ?_⟩
    cases e : ops[i']? with
    | none => rw [e] at ho; cases ho
    | some o' =>
      rw [e] at ho
      have ho := Option.some.inj ho
      subst ho
      refine ⟨o', rfl, fun ed he hbd => ?_⟩
      rw [← seen_on hp h1 h2 hs]
      refine hb { ed with on := is.idxOf ed.on } ?_ hbd
      simp only [renOp, Array.toList_map, List.mem_map]
      exact ⟨ed, he, rfl⟩
  · rintro ⟨_, a, o, ho, hb⟩
    refine ⟨p1, a, renOp is o, by rw [ho]; rfl, fun ed he hbd => ?_⟩
    simp only [renOp, Array.toList_map, List.mem_map] at he
    obtain ⟨ed', he', rfl⟩ := he
    rw [seen_on hp h1 h2 hs]
    exact hb ed' he' hbd

theorem wpOp_perm {is : List Nat} {ops : Array Oper} (hp : IsPerm is ops) {Q : Exit → Act → World → Prop} {K K' : Act → World → Prop} {i : Nat} (hi : i < ops.size) (hk : ∀ a w, K' a w → K a w) {a : Act} {w : World} (h : wpOp P (permOps is ops) Q (is.idxOf i) K' a w) : wpOp P ops Q i K a w := by
  obtain ⟨p1, p2⟩ := hp.put i hi
  obtain ⟨i', q1, q2, q3, q4⟩ := hp.get _ p1
  have : i' = i := by rw [p2] at q1; exact (Option.some.inj q1).symm
  subst this
  refine wpOp_mono hk ?_
  unfold wpOp at h ⊢
  rw [q4] at h
  cases e : ops[i']? with
  | none => rw [e] at h; exact h
  | some o =>
    rw [e] at h
    have hw : Region.wanted (renOp is o) (yielded (permOps is ops) a.tmps) = Region.wanted o (yielded ops a.tmps) := by
      obtain ⟨dst, op, type, pos, after, guard⟩ := o
      cases guard with
      | none => rfl
      | some g =>
        show (yielded (permOps is ops) a.tmps (is.idxOf g.1) == some g.2) = (yielded ops a.tmps g.1 == some g.2)
        have : (((permOps is ops)[is.idxOf g.1]?).bind (·.dst)) = ((ops[g.1]?).bind (·.dst)) := by
          by_cases hg : g.1 < ops.size
          · obtain ⟨r1, r2⟩ := hp.put _ hg
            obtain ⟨j, s1, s2, s3, s4⟩ := hp.get _ r1
            have : j = g.1 := by rw [r2] at s1; exact (Option.some.inj s1).symm
            subst this
            rw [s4]
            cases ops[g.1]? <;> rfl
          · have := hp.out g.1 (by omega)
            rw [Array.getElem?_eq_none (by rw [hp.size]; exact this), Array.getElem?_eq_none (by omega)]
        unfold yielded
        rw [this]
    have h : (if Region.wanted (renOp is o) (yielded (permOps is ops) a.tmps) = true then (renOp is o).wp P a w K' Q ∨ ((renOp is o).asks P a w ∧ LetsOut Q) else K' (a.put (renOp is o).dst undef) w) := h
    rw [hw] at h
    exact h

theorem wpAny_perm {is : List Nat} {ops : Array Oper} (hp : IsPerm is ops) {Q : Exit → Act → World → Prop} : ∀ (fuel : Nat) (listed listed' : Array Bool) (a : Act) (w : World), listed.size = ops.size → listed'.size = ops.size → Seen is ops.size listed listed' →
    wpAny P .any (permOps is ops) Q fuel listed' a w → wpAny P .any ops Q fuel listed a w
  | fuel, listed, listed', a, w, h1, h2, hs, h => by
    have hnil : Region.ready .any ops listed = [] → Region.ready .any (permOps is ops) listed' = [] := fun e => by
      cases hr : Region.ready .any (permOps is ops) listed' with
      | nil => rfl
      | cons p l =>
        have hm : p ∈ Region.ready .any (permOps is ops) listed' := by rw [hr]; exact List.mem_cons_self
        have hlt := ((mem_readyP (by rw [h2, hp.size])).mp hm).1
        rw [hp.size] at hlt
        obtain ⟨i, q1, q2, q3, q4⟩ := hp.get p hlt
        rw [← q3] at hm
        have := (ready_perm hp h1 h2 hs q2).mp hm
        rw [e] at this; cases this
    have hmem : ∀ i, i ∈ Region.ready .any ops listed → i < ops.size ∧ is.idxOf i ∈ Region.ready .any (permOps is ops) listed' := fun i hi => by
      have hlt := ((mem_readyP h1).mp hi).1
      exact ⟨hlt, (ready_perm hp h1 h2 hs hlt).mpr hi⟩
    cases fuel with
    | zero =>
      refine ⟨?_, h.2⟩
      cases hr : Region.ready .any ops listed with
      | nil => rfl
      | cons i l =>
        have := (hmem i (by rw [hr]; exact List.mem_cons_self)).2
        rw [h.1] at this; cases this
    | succ fuel =>
      refine ⟨fun e => h.1 (hnil e), fun i hi => ?_⟩
      obtain ⟨hlt, hm⟩ := hmem i hi
      refine wpOp_perm hp hlt (fun a w hk => wpAny_perm hp fuel _ _ a w (by simpa using h1) (by simpa using h2) ?_ hk) (h.2 _ hm)
      intro j hj
      obtain ⟨p1, p2⟩ := hp.put i hlt
      obtain ⟨r1, r2⟩ := hp.put j hj
      by_cases e : j = i
      · subst e
        simp [Array.getD, h1, h2, hj, r1]
      · have e2 : is.idxOf j ≠ is.idxOf i := fun e3 => e (by rw [e3, p2] at r2; exact (Option.some.inj r2).symm)
        have := hs j hj
        rw [Array.getD_eq_getD_getElem?, Array.getD_eq_getD_getElem?] at this ⊢
        rw [Array.getElem?_setIfInBounds_ne (Ne.symm e2), Array.getElem?_setIfInBounds_ne (Ne.symm e)]
        exact this

/-! ### the order that is taken: a slice that is made comes as late as it may -/

def isMk (o : Oper) : Bool := match o.op with | .makeSlice _ _ _ => true | _ => false
def edgesIn (m : Nat) (o : Oper) : Bool := o.after.toList.all fun e => !(Region.binds .any e) || Nat.testBit m e.on
def pickOf (m : Nat) (late : Bool) : List Oper → Nat → Option Nat
  | [], _ => none
  | o :: os, i => match !(Nat.testBit m i) && edgesIn m o && (late || !isMk o) with
    | true => some i
    | false => pickOf m late os (i + 1)
def lateGo (os : List Oper) : Nat → Nat → List Nat
  | 0, _ => []
  | n + 1, m => match pickOf m false os 0 with
    | some i => i :: lateGo os n (m ||| 2 ^ i)
    | none => match pickOf m true os 0 with
      | some i => i :: lateGo os n (m ||| 2 ^ i)
      | none => []
def lateOrder (ops : Array Oper) : List Nat := lateGo ops.toList ops.size 0
def permB (n : Nat) (is : List Nat) : Bool :=
  Nat.beq is.length n && ((List.range n).all (fun i => Nat.ble (is.idxOf i + 1) n && (is[is.idxOf i]? == some i)) &&
    (List.range n).all (fun p => match is[p]? with | some i => Nat.ble (i + 1) n && Nat.beq (is.idxOf i) p | none => false))

theorem filterMap_some {α β : Type} {f : α → Option β} : ∀ {l : List α}, (∀ x ∈ l, ∃ y, f x = some y) → (l.filterMap f).length = l.length ∧ ∀ p : Nat, (l.filterMap f)[p]? = (l[p]?).bind f
  | [], _ => ⟨rfl, fun p => by simp⟩
  | x :: l, h => by
    obtain ⟨y, hy⟩ := h x List.mem_cons_self
    obtain ⟨h1, h2⟩ := filterMap_some (l := l) fun z hz => h z (List.mem_cons_of_mem _ hz)
    rw [List.filterMap_cons_some hy]
    refine ⟨by simp [h1], fun p => ?_⟩
    cases p with
    | zero => simp [hy]
    | succ p => simpa using h2 p
theorem isPerm_of {is : List Nat} {ops : Array Oper} (h : permB ops.size is = true) : IsPerm is ops := by
  unfold permB at h
  simp only [Bool.and_eq_true, List.all_eq_true, List.mem_range] at h
  obtain ⟨h1, h2, h3⟩ := h
  have h1 : is.length = ops.size := Nat.eq_of_beq_eq_true h1
  have get : ∀ p, p < ops.size → ∃ i, is[p]? = some i ∧ i < ops.size ∧ is.idxOf i = p := fun p hp => by
    have := h3 p hp
    split at this
    · rename_i i e
      rw [Bool.and_eq_true] at this
      exact ⟨i, e, Nat.le_of_ble_eq_true this.1, Nat.eq_of_beq_eq_true this.2⟩
    · cases this
  have lt : ∀ i ∈ is, i < ops.size := fun i hi => by
    obtain ⟨p, hp⟩ := List.mem_iff_getElem?.mp hi
    have hl : p < is.length := (List.getElem?_eq_some_iff.mp hp).1
    obtain ⟨i', e, hlt, _⟩ := get p (by omega)
    rw [hp] at e
    rw [Option.some.inj e]; exact hlt
  obtain ⟨f1, f2⟩ := filterMap_some (f := fun i => (ops[i]?).map (renOp is)) (l := is) fun i hi => by
    have := lt i hi
    exact ⟨renOp is ops[i], by simp [this]⟩
  refine ⟨by unfold permOps; simp [f1, h1], fun p hp => ?_, fun i hi => ?_, fun i hi => ?_⟩
  · obtain ⟨i, e, hlt, hx⟩ := get p hp
    refine ⟨i, e, hlt, hx, ?_⟩
    have := f2 p
    unfold permOps
    rw [List.getElem?_toArray, this, e]
    rfl
  · obtain ⟨a, b⟩ := h2 i hi
    exact ⟨Nat.le_of_ble_eq_true a, by simpa using b⟩
  · have : i ∉ is := fun hm => by have := lt i hm; omega
    rw [List.idxOf_eq_length this]
    omega
end Go.Proofs.YtmgigdklcaepdaaGreatDoor.Ax
end

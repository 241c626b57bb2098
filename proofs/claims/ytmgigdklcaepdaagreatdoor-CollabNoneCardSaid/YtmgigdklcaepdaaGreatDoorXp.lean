/-
  One operation of a region, with its guard; regions in order.
-/
import Derived.Test.YtmgigdklcaepdaaGreatDoorXo
import Derived.Orders
set_option linter.unusedVariables false
set_option linter.unusedSimpArgs false
namespace Go.Proofs.YtmgigdklcaepdaaGreatDoor.Ax
set_option linter.unusedVariables false
set_option linter.unusedSimpArgs false

variable {P : Program} {T : Tab}

/-- A guard: none; a value and what it must be. -/
def guardOf (ops : Array Oper) (sc : Sc) (o : Oper) : Option (Option (AVal × Bool)) :=
  match o.guard with
  | none => some none
  | some (j, want) => match (ops[j]?).bind (·.dst) with
    | some d => match sc.get d with
      | some c => some (some (c, want))
      | none => none
    | none => none
/-- One operation. -/
noncomputable def denStep (T : Tab) (G : Glob) (ops : Array Oper) (sc : Sc) (o : Oper) (rec : Rec) (H : Heap) (k : AVal → Heap → Nat) : Nat :=
  match guardOf ops sc o with
  | none => fail
  | some none => match denOp T G sc o with
    | .mv v => k v H
    | .val f => f fun v => k v H
    | .read f => f H fun v => k v H
    | .new f => f H fun v H' => k v H'
    | .act f => f rec H fun v H' => k v H'
    | .bad => fail
  | some (some (c, want)) => match denOp T G sc o with
    | .mv v => gP c want (fun k => k v) fun v => k v H
    | .val f => gP c want (fun k => f k) fun v => k v H
    | .read f => gP c want (fun k => f H k) fun v => k v H
    | .new f => gE c want H (fun k => f H k) fun v H' => k v H'
    | .act f => gE c want H (fun k => f rec H k) fun v H' => k v H'
    | .bad => fail

inductive Kd where
  | pure
  | read
  | new (ob : AObj)
  | act

/-- What is known of an operation. -/
def StepF (P : Program) (gl : Fixed) (ops : Array Oper) (sc : Sc) (o : Oper) (H : Heap) (v : AVal) (H' : Heap) : Kd → Prop
  | .pure => H' = H ∧ ∀ w ρ (a : Act), TRel ρ sc a.tmps → ∃ cv, VRel ρ v cv ∧ ∀ i K Q, ops[i]? = some o → K (a.put o.dst cv) w → wpOp P ops Q i K a w
  | .read => H' = H ∧ ∀ w ρ (a : Act), HR gl H.f ρ w → TRel ρ sc a.tmps → ∃ cv, VRel ρ v cv ∧ ∀ i K Q, ops[i]? = some o → K (a.put o.dst cv) w → wpOp P ops Q i K a w
  | .new ob => NewIn H ob H' ∧ ∀ w ρ (a : Act), ρ H.next = none → TRel ρ sc a.tmps → ∃ cv w' tot obj, Push obj w w' ∧ ObjRel (ρ.set H.next ⟨w.heap.size, 0, tot⟩) w' ⟨w.heap.size, 0, tot⟩ ob ∧ VRel (ρ.set H.next ⟨w.heap.size, 0, tot⟩) v cv ∧
      ∀ i K Q, ops[i]? = some o → K (a.put o.dst cv) w' → wpOp P ops Q i K a w
  | .act => ∀ w ρ (a : Act), HR gl H.f ρ w → Dom ρ H.next → TRel ρ sc a.tmps → ∀ i K Q, ops[i]? = some o → (∀ cv ρ' w', Grow H.f ρ w H.next H'.f ρ' w' H'.next → HR gl H'.f ρ' w' → VRel ρ' v cv → K (a.put o.dst cv) w') → wpOp P ops Q i K a w

def isW (want : Bool) : AVal := match want with | true => .tt | false => .ff
theorem gP_one {c : AVal} {want : Bool} {o : KP → Nat} {k : KP} (h : gP c want o k = 1) : (c = isW want ∧ o k = 1) ∨ (c ≠ isW want ∧ k .undef = 1) := by
  cases want
  · cases c <;> first | exact .inl ⟨rfl, h⟩ | exact .inr ⟨by simp [isW], h⟩
  · cases c <;> first | exact .inl ⟨rfl, h⟩ | exact .inr ⟨by simp [isW], h⟩
theorem gE_one {c : AVal} {want : Bool} {H : Heap} {o : K → Nat} {k : K} (h : gE c want H o k = 1) : (c = isW want ∧ o k = 1) ∨ (c ≠ isW want ∧ k .undef H = 1) := by
  cases want
  · cases c <;> first | exact .inl ⟨rfl, h⟩ | exact .inr ⟨by simp [isW], h⟩
  · cases c <;> first | exact .inl ⟨rfl, h⟩ | exact .inr ⟨by simp [isW], h⟩

/-- The guard is open. -/
def Open (ops : Array Oper) (sc : Sc) (o : Oper) : Prop := guardOf ops sc o = some none ∨ ∃ want, guardOf ops sc o = some (some (isW want, want))
/-- The guard is shut. -/
def Shut (ops : Array Oper) (sc : Sc) (o : Oper) : Prop := ∃ c want, guardOf ops sc o = some (some (c, want)) ∧ c ≠ isW want

theorem guardOf_some {ops : Array Oper} {sc : Sc} {o : Oper} {c : AVal} {want : Bool} (h : guardOf ops sc o = some (some (c, want))) : ∃ j d, o.guard = some (j, want) ∧ (ops[j]?).bind (·.dst) = some d ∧ sc.get d = some c := by
  unfold guardOf at h
  split at h
  · cases h
  · rename_i j wt hg
    split at h
    · rename_i d hd
      split at h
      · rename_i c' hc
        injection h with h; injection h with h; injection h with e1 e2; subst e1 e2
        exact ⟨j, d, hg, hd, hc⟩
      · cases h
    · cases h
theorem Open.wanted {ops : Array Oper} {sc : Sc} {o : Oper} (h : Open ops sc o) {ρ : Ren} {a : Act} (ht : TRel ρ sc a.tmps) : Region.wanted o (yielded ops a.tmps) = true := by
  rcases h with h | ⟨want, h⟩
  · unfold guardOf at h
    split at h
    · rename_i hg; simp [Region.wanted, hg]
    · split at h
      · split at h <;> simp at h
      · cases h
  · obtain ⟨j, d, hg, hd, hc⟩ := guardOf_some h
    obtain ⟨cv, h1, h2⟩ := ht d _ hc
    have : cv = .bool want := by cases want <;> (simp only [isW] at h2; cases h2; rfl)
    subst this
    simp [Region.wanted, hg, yielded, hd, h1]
theorem Shut.wanted {ops : Array Oper} {sc : Sc} {o : Oper} (h : Shut ops sc o) {ρ : Ren} {a : Act} (ht : TRel ρ sc a.tmps) : Region.wanted o (yielded ops a.tmps) = false := by
  obtain ⟨c, want, h, hne⟩ := h
  obtain ⟨j, d, hg, hd, hc⟩ := guardOf_some h
  obtain ⟨cv, h1, h2⟩ := ht d _ hc
  have : cv ≠ .bool want := by
    intro e; subst e
    cases want <;> (cases h2; exact hne rfl)
  simp only [Region.wanted, hg, yielded, hd, Option.bind_some, h1]
  cases cv <;> simp_all

/-- What is put off: nothing. -/
theorem shut_step {gl : Fixed} {ops : Array Oper} {sc : Sc} {o : Oper} {H : Heap} (h : Shut ops sc o) : StepF P gl ops sc o H .undef H .pure :=
  ⟨rfl, fun w ρ a ht => ⟨undef, VRel.undef, fun i K Q hi hK => by
    unfold wpOp
    simp only [hi, h.wanted ht, Bool.false_eq_true, if_false]
    exact hK⟩⟩
theorem open_val {ops : Array Oper} {sc : Sc} {o : Oper} (h : Open ops sc o) {ρ : Ren} {a : Act} (ht : TRel ρ sc a.tmps) {w w' : World} {cv : Value} (hr : (execOp a.eval o).run P w = .ok (.value cv) w') {i : Nat} {K : Act → World → Prop} {Q : Exit → Act → World → Prop} (hi : ops[i]? = some o) (hK : K (a.put o.dst cv) w') : wpOp P ops Q i K a w := by
  unfold wpOp
  simp only [hi, h.wanted ht, if_true, Oper.wp, hr, Oper.upon]
  exact .inl hK
theorem open_mv {gl : Fixed} {ops : Array Oper} {sc : Sc} {o : Oper} {v : AVal} {H : Heap} (h : Open ops sc o) (hp : MvOk P sc o v) : StepF P gl ops sc o H v H .pure :=
  ⟨rfl, fun w ρ a ht => let ⟨cv, hr, hv⟩ := hp w ρ a ht; ⟨cv, hv, fun i K Q hi hK => open_val h ht hr hi hK⟩⟩

theorem denStep_ok {gl : Fixed} {G : Glob} (hG : GOk gl G) (hT : TabOk P T) {ops : Array Oper} {sc : Sc} {o : Oper} {rec : Rec} (hrec : RecOk P gl rec) {H : Heap} {k : AVal → Heap → Nat} (h : denStep T G ops sc o rec H k = 1) :
    ∃ v H' kd, k v H' = 1 ∧ StepF P gl ops sc o H v H' kd := by
  have hok := denOp_ok hG hT (gl := gl) sc o
  have hval : ∀ {f : KP → Nat} {kv : KP}, Open ops sc o → PrimOk P gl sc o (.val f) → f kv = 1 → ∃ v, kv v = 1 ∧ StepF P gl ops sc o H v H .pure := fun ho hp hf =>
    let ⟨v, h1, h2⟩ := hp _ hf; ⟨v, h1, rfl, fun w ρ a ht => let ⟨cv, hr, hv⟩ := h2 w ρ a ht; ⟨cv, hv, fun i K Q hi hK => open_val ho ht hr hi hK⟩⟩
  have hread : ∀ {f : Heap → KP → Nat} {kv : KP}, Open ops sc o → PrimOk P gl sc o (.read f) → f H kv = 1 → ∃ v, kv v = 1 ∧ StepF P gl ops sc o H v H .read := fun ho hp hf =>
    let ⟨v, h1, h2⟩ := hp _ _ hf; ⟨v, h1, rfl, fun w ρ a hr ht => let ⟨cv, hx, hv⟩ := h2 w ρ a hr ht; ⟨cv, hv, fun i K Q hi hK => open_val ho ht hx hi hK⟩⟩
  have hnew : ∀ {f : Heap → K → Nat} {kv : K}, Open ops sc o → PrimOk P gl sc o (.new f) → f H kv = 1 → ∃ v H' ob, kv v H' = 1 ∧ StepF P gl ops sc o H v H' (.new ob) := fun ho hp hf =>
    let ⟨v, ob, H', h1, h2, h3⟩ := hp _ _ hf; ⟨v, H', ob, h1, h2, fun w ρ a hb ht => let ⟨cv, w', tot, obj, hx, hpu, hob, hv⟩ := h3 w ρ a hb ht; ⟨cv, w', tot, obj, hpu, hob, hv, fun i K Q hi hK => open_val ho ht hx hi hK⟩⟩
  have hact : ∀ {f : Rec → Heap → K → Nat} {kv : K}, Open ops sc o → PrimOk P gl sc o (.act f) → f rec H kv = 1 → ∃ v H', kv v H' = 1 ∧ StepF P gl ops sc o H v H' .act := fun ho hp hf =>
    let ⟨v, H', h1, h2⟩ := hp rec hrec _ _ hf; ⟨v, H', h1, fun w ρ a hr hd ht i K Q hi hK => by
      have := h2 w ρ a hr hd ht K Q hK
      unfold wpOp
      simp only [hi, ho.wanted ht, if_true]
      exact .inl this⟩
  unfold denStep at h
  split at h
  · cases h
  · rename_i hg
    have ho : Open ops sc o := .inl hg
    split at h
    · rename_i v hd; rw [hd] at hok; exact ⟨v, H, .pure, h, open_mv ho hok⟩
    · rename_i f hd; rw [hd] at hok; obtain ⟨v, h1, h2⟩ := hval ho hok h; exact ⟨v, H, .pure, h1, h2⟩
    · rename_i f hd; rw [hd] at hok; obtain ⟨v, h1, h2⟩ := hread ho hok h; exact ⟨v, H, .read, h1, h2⟩
    · rename_i f hd; rw [hd] at hok; obtain ⟨v, H', ob, h1, h2⟩ := hnew ho hok h; exact ⟨v, H', .new ob, h1, h2⟩
    · rename_i f hd; rw [hd] at hok; obtain ⟨v, H', h1, h2⟩ := hact ho hok h; exact ⟨v, H', .act, h1, h2⟩
    · cases h
  · rename_i c want hg
    split at h
    · rename_i v hd; rw [hd] at hok
      rcases gP_one h with ⟨rfl, h1⟩ | ⟨hne, h1⟩
      · exact ⟨v, H, .pure, h1, open_mv (.inr ⟨want, hg⟩) hok⟩
      · exact ⟨_, H, .pure, h1, shut_step ⟨c, want, hg, hne⟩⟩
    · rename_i f hd; rw [hd] at hok
      rcases gP_one h with ⟨rfl, h1⟩ | ⟨hne, h1⟩
      · obtain ⟨v, h1, h2⟩ := hval (.inr ⟨want, hg⟩) hok h1; exact ⟨v, H, .pure, h1, h2⟩
      · exact ⟨_, H, .pure, h1, shut_step ⟨c, want, hg, hne⟩⟩
    · rename_i f hd; rw [hd] at hok
      rcases gP_one h with ⟨rfl, h1⟩ | ⟨hne, h1⟩
      · obtain ⟨v, h1, h2⟩ := hread (.inr ⟨want, hg⟩) hok h1; exact ⟨v, H, .read, h1, h2⟩
      · exact ⟨_, H, .pure, h1, shut_step ⟨c, want, hg, hne⟩⟩
    · rename_i f hd; rw [hd] at hok
      rcases gE_one h with ⟨rfl, h1⟩ | ⟨hne, h1⟩
      · obtain ⟨v, H', ob, h1, h2⟩ := hnew (.inr ⟨want, hg⟩) hok h1; exact ⟨v, H', .new ob, h1, h2⟩
      · exact ⟨_, H, .pure, h1, shut_step ⟨c, want, hg, hne⟩⟩
    · rename_i f hd; rw [hd] at hok
      rcases gE_one h with ⟨rfl, h1⟩ | ⟨hne, h1⟩
      · obtain ⟨v, H', h1, h2⟩ := hact (.inr ⟨want, hg⟩) hok h1; exact ⟨v, H', .act, h1, h2⟩
      · exact ⟨_, H, .pure, h1, shut_step ⟨c, want, hg, hne⟩⟩
    · cases h

/-- In order, each goes on so. -/
theorem StepF.go {gl : Fixed} {ops : Array Oper} {sc : Sc} {o : Oper} {H : Heap} {v : AVal} {H' : Heap} {kd : Kd} (h : StepF P gl ops sc o H v H' kd) {w : World} {ρ : Ren} {a : Act} (hr : HR gl H.f ρ w) (hd : Dom ρ H.next) (ht : TRel ρ sc a.tmps)
    {i : Nat} {K : Act → World → Prop} {Q : Exit → Act → World → Prop} (hi : ops[i]? = some o) (hK : ∀ cv ρ' w', Grow H.f ρ w H.next H'.f ρ' w' H'.next → HR gl H'.f ρ' w' → VRel ρ' v cv → K (a.put o.dst cv) w') : wpOp P ops Q i K a w := by
  cases kd with
  | pure =>
    obtain ⟨rfl, h⟩ := h
    obtain ⟨cv, h1, h2⟩ := h w ρ a ht
    exact h2 i K Q hi (hK cv ρ w (.refl _ _ _ _) hr h1)
  | read =>
    obtain ⟨rfl, h⟩ := h
    obtain ⟨cv, h1, h2⟩ := h w ρ a hr ht
    exact h2 i K Q hi (hK cv ρ w (.refl _ _ _ _) hr h1)
  | new ob =>
    obtain ⟨hn, h⟩ := h
    have hb := hd _ (Nat.le_refl _)
    obtain ⟨cv, w', tot, obj, h1, h2, h3, h4⟩ := h w ρ a hb ht
    obtain ⟨q1, q2⟩ := hr.new hb h1 hn.2 h2
    exact h4 i K Q hi (hK cv _ w' (by rw [hn.1]; exact q2) q1 h3)
  | act => exact h w ρ a hr hd ht i K Q hi hK

theorem Dom.grow {f f' : Nat → Option AObj} {ρ ρ' : Ren} {w w' : World} {n n' : Nat} (h : Dom ρ n) (g : Grow f ρ w n f' ρ' w' n') : Dom ρ' n' := by
  intro b hb
  cases hx : ρ' b with
  | none => rfl
  | some L =>
    cases h0 : ρ b with
    | some L0 =>
      rcases Nat.lt_or_ge b n with q | q
      · have := g.nx; omega
      · rw [h b q] at h0; cases h0
    | none =>
      have := (g.new b L hx h0).2.1
      omega

/-- A region in order. -/
noncomputable def denOps (T : Tab) (G : Glob) (ops : Array Oper) (nt : Nat) (rec : Rec) : List Nat → Sc → Heap → (Sc → Heap → Nat) → Nat
  | [], sc, H, k => k sc H
  | i :: is, sc, H, k => match ops[i]? with
    | none => fail
    | some o => denStep T G ops sc o rec H fun v H' => denOps T G ops nt rec is (sc.put nt o.dst v) H' k

/-- How the temporaries and the world stand. -/
structure Stand (gl : Fixed) (nt : Nat) (sc : Sc) (H : Heap) (ρ : Ren) (a : Act) (w : World) : Prop where
  hr : HR gl H.f ρ w
  dom : Dom ρ H.next
  tr : TRel ρ sc a.tmps
  sz : a.tmps.size = nt
  df : a.defers = []

theorem denOps_ok {gl : Fixed} {G : Glob} (hG : GOk gl G) (hT : TabOk P T) {ops : Array Oper} {nt : Nat} {rec : Rec} (hrec : RecOk P gl rec) : ∀ (is : List Nat) {sc : Sc} {H : Heap} {k : Sc → Heap → Nat}, denOps T G ops nt rec is sc H k = 1 →
    ∃ sc' H', k sc' H' = 1 ∧ ∀ w ρ a, Stand gl nt sc H ρ a w → ∀ Q : Exit → Act → World → Prop, (∀ a' ρ' w', Grow H.f ρ w H.next H'.f ρ' w' H'.next → Stand gl nt sc' H' ρ' a' w' → Q .normal a' w') → wpOps P ops Q is a w
  | [], sc, H, k, h => ⟨sc, H, h, fun w ρ a st Q hQ => hQ a ρ w (.refl _ _ _ _) st⟩
  | i :: is, sc, H, k, h => by
    unfold denOps at h
    split at h
    · cases h
    · rename_i o ho
      obtain ⟨v, H1, kd, h1, h2⟩ := denStep_ok hG hT hrec h
      obtain ⟨sc', H', h3, h4⟩ := denOps_ok hG hT hrec is h1
      refine ⟨sc', H', h3, fun w ρ a st Q hQ => ?_⟩
      rw [wpOps_cons]
      refine h2.go st.hr st.dom st.tr ho fun cv ρ1 w1 g r1 v1 => ?_
      have tp := TRel.put (st.tr.mono g.le) st.sz o.dst v1
      refine h4 w1 ρ1 _ ⟨r1, st.dom.grow g, tp.1, tp.2, ?_⟩ Q fun a' ρ' w' g' st' => hQ a' ρ' w' (g.trans g') st'
      cases hd : o.dst <;> exact st.df

end Go.Proofs.YtmgigdklcaepdaaGreatDoor.Ax

/-
  Regions that draw their order: every order goes.
-/
import Derived.Test.YtmgigdklcaepdaaGreatDoorXr
set_option linter.unusedVariables false
set_option linter.unusedSimpArgs false
namespace Go.Proofs.YtmgigdklcaepdaaGreatDoor.Ax
set_option linter.unusedVariables false
set_option linter.unusedSimpArgs false

section
variable {P : Program} {gl : Fixed} {ops : Array Oper} {nt : Nat} {sc0 : Sc} {H0 : Heap} {n : Nat} {t : Tr} {s : Wk}

theorem Kd.new_of {k : Kd} (h : k.isNew) : ∃ ob, k = .new ob := by cases k <;> first | exact ⟨_, rfl⟩ | exact h.elim
theorem Kd.act_of {k : Kd} (h : k.isAct) : k = .act := by cases k <;> first | rfl | exact h.elim
theorem Kd.read_of {k : Kd} (h : k.isRead) : k = .read := by cases k <;> first | rfl | exact h.elim

theorem Good.le (g : Good P gl ops nt sc0 H0 n t s) : ∀ {j i : Nat}, i ≤ j → j ≤ n → (t.hp i).next ≤ (t.hp j).next
  | 0, i, h, _ => by have : i = 0 := by omega
                     subst this; exact Nat.le_refl _
  | j + 1, i, h, hj => by
    rcases Nat.lt_or_ge j i with q | q
    · have : i = j + 1 := by omega
      subst this; exact Nat.le_refl _
    · exact Nat.le_trans (g.le q (by omega)) (g.mono j (by omega))
theorem Good.newAt (g : Good P gl ops nt sc0 H0 n t s) {k : Nat} (hk : k < n) {ob : AObj} (hn : t.kd k = .new ob) : NewIn (t.hp k) ob (t.hp (k + 1)) := by
  obtain ⟨o, _, _, _, _, hf⟩ := g.op k hk
  rw [hn] at hf
  exact hf.1
theorem Good.lt (g : Good P gl ops nt sc0 H0 n t s) {k j : Nat} (hj : j ≤ n) (hkj : k < j) (hn : (t.kd k).isNew) : (t.hp k).next < (t.hp j).next := by
  obtain ⟨ob, hn⟩ := Kd.new_of hn
  have h1 := (g.newAt (by omega) hn).1
  have h2 := g.le (i := k + 1) (j := j) (by omega) hj
  omega
theorem Good.inj (g : Good P gl ops nt sc0 H0 n t s) {k j : Nat} (hk : k < n) (hj : j < n) (hnk : (t.kd k).isNew) (hnj : (t.kd j).isNew) (e : (t.hp k).next = (t.hp j).next) : k = j := by
  rcases Nat.lt_trichotomy k j with h | h | h
  · have := g.lt (by omega) h hnk; omega
  · exact h
  · have := g.lt (by omega) h hnj; omega
theorem Good.same (g : Good P gl ops nt sc0 H0 n t s) {k : Nat} (hk : k < n) (h1 : ¬ (t.kd k).isAct) (h2 : ¬ (t.kd k).isNew) : t.hp (k + 1) = t.hp k := by
  obtain ⟨o, _, _, _, _, hf⟩ := g.op k hk
  cases hkd : t.kd k with
  | pure => rw [hkd] at hf; exact hf.1
  | read => rw [hkd] at hf; exact hf.1
  | new ob => rw [hkd] at h2; exact (h2 trivial).elim
  | act => rw [hkd] at h1; exact (h1 trivial).elim
/-- Between two effects: what was there stays. -/
theorem Good.seg (g : Good P gl ops nt sc0 H0 n t s) {i : Nat} : ∀ {j : Nat}, i ≤ j → j ≤ n → (∀ p, i ≤ p → p < j → ¬ (t.kd p).isAct) → ∀ b, (∀ k, i ≤ k → k < j → (t.kd k).isNew → b ≠ (t.hp k).next) → (t.hp j).f b = (t.hp i).f b
  | 0, h, _, _, b, _ => by have : i = 0 := by omega
                           subst this; rfl
  | j + 1, h, hj, ha, b, hb => by
    rcases Nat.lt_or_ge j i with q | q
    · have : i = j + 1 := by omega
      subst this; rfl
    · rw [← g.seg q (by omega) (fun p h1 h2 => ha p h1 (by omega)) b (fun k h1 h2 => hb k h1 (by omega))]
      by_cases hn : (t.kd j).isNew
      · obtain ⟨ob, hn'⟩ := Kd.new_of hn
        rw [(g.newAt (by omega) hn').2 b, if_neg (hb j q (by omega) hn)]
      · rw [g.same (by omega) (ha j q (by omega)) hn]
theorem Good.segNew (g : Good P gl ops nt sc0 H0 n t s) {k j : Nat} (hk : k < j) (hj : j ≤ n) (ha : ∀ p, k < p → p < j → ¬ (t.kd p).isAct) {ob : AObj} (hn : t.kd k = .new ob) : (t.hp j).f (t.hp k).next = some ob := by
  rw [g.seg (i := k + 1) (by omega) hj (fun p h1 h2 => ha p (by omega) h2) _ (fun k' h1 h2 h3 e => by have := g.inj (by omega) (by omega) (by rw [hn]; trivial) h3 e; omega)]
  rw [(g.newAt (by omega) hn).2, if_pos rfl]

/-- A renaming without the blocks that those of a set behind j have made. -/
noncomputable def Tr.R (t : Tr) (S : Nat → Prop) (ρ : Ren) (j : Nat) : Ren := open Classical in fun b => if ∃ k, S k ∧ j < k ∧ (t.kd k).isNew ∧ b = (t.hp k).next then none else ρ b
theorem R_some {S : Nat → Prop} {ρ : Ren} {j b : Nat} {L : Loc} : t.R S ρ j b = some L ↔ ρ b = some L ∧ ∀ k, S k → j < k → (t.kd k).isNew → b ≠ (t.hp k).next := by
  unfold Tr.R
  constructor
  · intro h
    split at h
    · cases h
    · rename_i hn
      exact ⟨h, fun k h1 h2 h3 e => hn ⟨k, h1, h2, h3, e⟩⟩
  · intro ⟨h1, h2⟩
    rw [if_neg]
    · exact h1
    · rintro ⟨k, a, b, c, d⟩; exact h2 k a b c d
theorem R_le {S : Nat → Prop} {ρ : Ren} {i j : Nat} (h : i ≤ j) : (t.R S ρ i).le (t.R S ρ j) := by
  intro b L hb
  rw [R_some] at hb ⊢
  exact ⟨hb.1, fun k h1 h2 h3 => hb.2 k h1 (by omega) h3⟩

structure Inv (P : Program) (gl : Fixed) (ops : Array Oper) (nt : Nat) (sc0 : Sc) (H0 : Heap) (n : Nat) (t : Tr) (ρ0 : Ren) (w0 : World) (S : Nat → Prop) (nx : Nat) (a : Act) (w : World) (ρ : Ren) : Prop where
  cl : ∀ i, S i → Cl ops S i
  lt : ∀ i, S i → i < n
  nx_le : nx ≤ n
  nx_act : nx < n → (t.kd nx).isAct
  nx_not : ¬ S nx
  acts : ∀ j, j < nx → (t.kd j).isAct → S j
  hr : HR gl (t.hp nx).f (t.R S ρ nx) w
  dom : Dom (t.R S ρ nx) (t.hp nx).next
  nw : ∀ k, k < n → (t.kd k).isNew → ¬ S k → ρ (t.hp k).next = none
  fl : ∀ k ob, S k → nx < k → t.kd k = .new ob → ∃ c tot, ρ (t.hp k).next = some ⟨c, 0, tot⟩ ∧ ObjRel (t.R S ρ k) w ⟨c, 0, tot⟩ ob ∧ c < w.heap.size ∧ w0.heap.size ≤ c ∧ ∀ b L, t.R S ρ nx b = some L → live (t.hp nx).f b → L.c ≠ c
  fl2 : ∀ k k' L L', S k → S k' → nx < k → nx < k' → k ≠ k' → (t.kd k).isNew → (t.kd k').isNew → ρ (t.hp k).next = some L → ρ (t.hp k').next = some L' → L.c ≠ L'.c
  grow : Grow H0.f ρ0 w0 H0.next (t.hp nx).f (t.R S ρ nx) w (t.hp nx).next
  tmp : ∀ k, S k → ∀ o, ops[k]? = some o → ∀ d, o.dst = some d → d < nt → (∀ j, S j → k < j → ∀ o', ops[j]? = some o' → o'.dst ≠ some d) → ∃ cv, a.tmps[d]? = some cv ∧ VRel (t.R S ρ (max k nx)) (t.v k) cv
  tmp0 : ∀ d v, sc0.get d = some v → (∀ j, S j → ∀ o, ops[j]? = some o → o.dst ≠ some d) → ∃ cv, a.tmps[d]? = some cv ∧ VRel (t.R S ρ nx) v cv
  sz : a.tmps.size = nt
  df : a.defers = []

theorem apartOk_spec {m : Nat} {o : Oper} : ∀ {i : Nat}, apartOk ops m o i = true → ∀ j, j < i → ∀ oj, ops[j]? = some oj → m.testBit j = true ∨ Oper.apart ops oj o = true
  | 0, h, j, hj, oj, ho => by omega
  | i + 1, h, j, hj, oj, ho => by
    unfold apartOk at h
    rw [Bool.and_eq_true, Bool.or_eq_true] at h
    rcases Nat.lt_or_ge j i with q | q
    · exact apartOk_spec h.2 j q oj ho
    · have : j = i := by omega
      subst this
      rw [ho] at h
      exact h.1

theorem Good.anc (g : Good P gl ops nt sc0 H0 n t s) {S : Nat → Prop} (cl : ∀ i, S i → Cl ops S i) {k : Nat} (hk : k < n) (hc : Cl ops S k) {j : Nat} (h : (t.m k).testBit j = true) : S j := g.mask k hk S cl hc j h

/-- Of two operations of which one is done and the other is not: they don't meddle, the earlier one first. -/
theorem Good.apart1 (g : Good P gl ops nt sc0 H0 n t s) {S : Nat → Prop} (cl : ∀ i, S i → Cl ops S i) {i k : Nat} (hi : i < n) (hki : k < i) (hS : ¬ S k) (hSi : S i) {o oi : Oper} (ho : ops[k]? = some o) (hoi : ops[i]? = some oi) : Oper.apart ops o oi = true := by
  obtain ⟨o', h1, _, h2, _⟩ := g.op i hi
  rw [hoi] at h1; injection h1 with h1; subst h1
  rcases apartOk_spec h2 k hki o ho with q | q
  · exact (hS (g.anc cl hi (cl i hSi) q)).elim
  · exact q

theorem Sc.only_get {ts : List Nat} {d : Nat} {v : AVal} : ∀ {sc : Sc}, (sc.only ts).get d = some v → d ∈ ts ∧ sc.get d = some v
  | [], h => by cases h
  | (u, x) :: sc, h => by
    unfold Sc.only at h
    rw [List.filter_cons] at h
    split at h
    · rename_i hc
      have h' : (if u = d then some x else Sc.get (Sc.only ts sc) d) = some v := h
      show d ∈ ts ∧ (if u = d then some x else Sc.get sc d) = some v
      by_cases e : u = d
      · rw [if_pos e] at h' ⊢
        exact ⟨by rw [← e]; simpa using hc, h'⟩
      · rw [if_neg e] at h' ⊢
        exact Sc.only_get h'
    · rename_i hc
      obtain ⟨h1, h2⟩ := Sc.only_get (sc := sc) h
      refine ⟨h1, ?_⟩
      show (if u = d then some x else Sc.get sc d) = some v
      rw [if_neg (fun e => hc (by rw [e]; simpa using h1))]
      exact h2
theorem Sc.put_get {sc : Sc} {dst : Option Nat} {v u : AVal} {d : Nat} (h : (sc.put nt dst v).get d = some u) : (dst = some d ∧ d < nt ∧ u = v) ∨ (dst ≠ some d ∧ sc.get d = some u) := by
  cases dst with
  | none => exact .inr ⟨by simp, h⟩
  | some e =>
    have h : Sc.get (if e < nt then (e, v) :: sc else sc.filter (fun p => p.1 ≠ e)) d = some u := h
    split at h
    · rename_i hlt
      have h : (if e = d then some v else Sc.get sc d) = some u := h
      by_cases q : e = d
      · rw [if_pos q] at h; injection h with h; exact .inl ⟨by rw [q], by omega, h.symm⟩
      · rw [if_neg q] at h; exact .inr ⟨by simpa using q, h⟩
    · rename_i hge
      have key : ∀ (l : Sc), Sc.get (l.filter fun p => p.1 ≠ e) d = some u → e ≠ d ∧ Sc.get l d = some u := by
        intro l
        induction l with
        | nil => intro h; cases h
        | cons p l ih =>
          obtain ⟨q, x⟩ := p
          intro h
          rw [List.filter_cons] at h
          by_cases hq : q = e
          · rw [if_neg (by simpa using hq)] at h
            obtain ⟨g1, g2⟩ := ih h
            refine ⟨g1, ?_⟩
            show (if q = d then some x else Sc.get l d) = some u
            rw [if_neg (fun e' => g1 (hq.symm.trans e'))]
            exact g2
          · rw [if_pos (by simpa using hq)] at h
            have h2 : (if q = d then some x else Sc.get (l.filter fun p => p.1 ≠ e) d) = some u := h
            show _ ∧ (if q = d then some x else Sc.get l d) = some u
            by_cases e' : q = d
            · rw [if_pos e'] at h2 ⊢; exact ⟨fun e2 => hq (e'.trans e2.symm), h2⟩
            · rw [if_neg e'] at h2 ⊢; exact ih h2
      obtain ⟨h1, h2⟩ := key sc h
      exact .inr ⟨by simpa using h1, h2⟩
theorem Good.scope (g : Good P gl ops nt sc0 H0 n t s) : ∀ {k : Nat}, k ≤ n → ∀ {d : Nat} {v : AVal}, (t.sc k).get d = some v →
    (∃ i, i < k ∧ ∃ o, ops[i]? = some o ∧ o.dst = some d ∧ d < nt ∧ v = t.v i ∧ ∀ j, i < j → j < k → ∀ o', ops[j]? = some o' → o'.dst ≠ some d) ∨ (sc0.get d = some v ∧ ∀ j, j < k → ∀ o', ops[j]? = some o' → o'.dst ≠ some d)
  | 0, _, d, v, h => .inr ⟨by rw [g.s0] at h; exact h, fun j hj => by omega⟩
  | k + 1, hk, d, v, h => by
    obtain ⟨o, ho, _, _, hsc, _⟩ := g.op k (by omega)
    rw [hsc] at h
    rcases Sc.put_get h with ⟨h1, h2, h3⟩ | ⟨h1, h2⟩
    · exact .inl ⟨k, by omega, o, ho, h1, h2, h3, fun j a b => by omega⟩
    · have one : ∀ j, j < k + 1 → ¬ j < k → ∀ o', ops[j]? = some o' → o'.dst ≠ some d := fun j a b o' ho' => by
        have : j = k := by omega
        subst this
        rw [ho] at ho'; injection ho' with ho'; subst ho'; exact h1
      rcases g.scope (k := k) (by omega) h2 with ⟨i, hi, o', q1, q2, q3, q4, q5⟩ | ⟨q1, q2⟩
      · refine .inl ⟨i, by omega, o', q1, q2, q3, q4, fun j a b o'' ho'' => ?_⟩
        by_cases hj : j < k
        · exact q5 j a hj o'' ho''
        · exact one j b hj o'' ho''
      · refine .inr ⟨q1, fun j a o'' ho'' => ?_⟩
        by_cases hj : j < k
        · exact q2 j hj o'' ho''
        · exact one j a hj o'' ho''

section inv
variable {ρ0 ρ : Ren} {w0 w : World} {S : Nat → Prop} {nx : Nat} {a : Act} {k : Nat}

/-- What an operation looks at stands right, if it may come. -/
theorem Inv.trel (iv : Inv P gl ops nt sc0 H0 n t ρ0 w0 S nx a w ρ) (g : Good P gl ops nt sc0 H0 n t s) (hk : k < n) (hS : ¬ S k) (hc : Cl ops S k) {o : Oper} (ho : ops[k]? = some o) : TRel (t.R S ρ (max k nx)) ((t.sc k).only (o.looksAt ops)) a.tmps := by
  intro d v hv
  obtain ⟨hd, hv⟩ := Sc.only_get hv
  have later : ∀ j, S j → ¬ j < k → ∀ o', ops[j]? = some o' → o'.dst ≠ some d := by
    intro j hj hjk o' ho' e
    have hne : j ≠ k := fun e => hS (e ▸ hj)
    have := g.apart1 iv.cl (iv.lt j hj) (by omega) hS hj ho ho'
    exact (Oper.apart_spec this).2.2 d e hd
  rcases g.scope (by omega) hv with ⟨i, hi, oi, q1, q2, q3, q4, q5⟩ | ⟨q1, q2⟩
  · have hSi : S i := by
      obtain ⟨o', h1, _, h2, _⟩ := g.op k hk
      rw [ho] at h1; injection h1 with h1; subst h1
      rcases apartOk_spec h2 i hi oi q1 with q | q
      · exact g.anc iv.cl hk hc q
      · exact absurd hd ((Oper.apart_spec q).1 d q2)
    obtain ⟨cv, e1, e2⟩ := iv.tmp i hSi oi q1 d q2 q3 (fun j hj hij o' ho' => by
      by_cases hjk : j < k
      · exact q5 j hij hjk o' ho'
      · exact later j hj hjk o' ho')
    exact ⟨cv, e1, by rw [q4]; exact e2.mono (R_le (by omega))⟩
  · obtain ⟨cv, e1, e2⟩ := iv.tmp0 d v q1 (fun j hj o' ho' => by
      by_cases hjk : j < k
      · exact q2 j hjk o' ho'
      · exact later j hj hjk o' ho')
    exact ⟨cv, e1, e2.mono (R_le (by omega))⟩

theorem put_tmp {a : Act} {d e : Nat} {cv : Value} {x : Option Nat} (h : x ≠ some d) : (a.put x cv).tmps[d]? = a.tmps[d]? := by
  cases x with
  | none => rfl
  | some e => exact Array.getElem?_setIfInBounds_ne (fun q => h (by rw [q]))

/-- The temporaries behind an operation. -/
theorem Inv.puts (iv : Inv P gl ops nt sc0 H0 n t ρ0 w0 S nx a w ρ) (g : Good P gl ops nt sc0 H0 n t s) (hk : k < n) (hS : ¬ S k) {o : Oper} (ho : ops[k]? = some o) {X : Nat → Ren} {nx' : Nat}
    (hX : ∀ i, S i → (t.R S ρ (max i nx)).le (X (max i nx'))) (hX0 : (t.R S ρ nx).le (X nx')) {cv : Value} (hv : VRel (X (max k nx')) (t.v k) cv) :
    (∀ i, (S i ∨ i = k) → ∀ o', ops[i]? = some o' → ∀ d, o'.dst = some d → d < nt → (∀ j, (S j ∨ j = k) → i < j → ∀ o'', ops[j]? = some o'' → o''.dst ≠ some d) → ∃ cv', (a.put o.dst cv).tmps[d]? = some cv' ∧ VRel (X (max i nx')) (t.v i) cv') ∧
    (∀ d v, sc0.get d = some v → (∀ j, (S j ∨ j = k) → ∀ o', ops[j]? = some o' → o'.dst ≠ some d) → ∃ cv', (a.put o.dst cv).tmps[d]? = some cv' ∧ VRel (X nx') v cv') ∧
    (a.put o.dst cv).tmps.size = nt ∧ (a.put o.dst cv).defers = [] := by
  refine ⟨fun i hi o' ho' d hd hlt hlast => ?_, fun d v hv0 hno => ?_, ?_, ?_⟩
  · by_cases hik : i = k
    · subst hik
      rw [ho] at ho'; injection ho' with ho'; subst ho'
      refine ⟨cv, ?_, hv⟩
      rw [hd]
      show (a.tmps.setIfInBounds d cv)[d]? = some cv
      rw [Array.getElem?_setIfInBounds, if_pos rfl, if_pos (by rw [iv.sz]; exact hlt)]
    · have hi : S i := hi.resolve_right hik
      have hne : o.dst ≠ some d := by
        intro e
        rcases Nat.lt_or_ge i k with q | q
        · exact hlast k (.inr rfl) q o ho e
        · have := g.apart1 iv.cl (iv.lt i hi) (by omega) hS hi ho ho'
          exact (Oper.apart_spec this).2.1 d e hd
      obtain ⟨cv', e1, e2⟩ := iv.tmp i hi o' ho' d hd hlt (fun j hj hij => hlast j (.inl hj) hij)
      exact ⟨cv', by rw [put_tmp (e := 0) hne]; exact e1, e2.mono (hX i hi)⟩
  · obtain ⟨cv', e1, e2⟩ := iv.tmp0 d v hv0 (fun j hj => hno j (.inl hj))
    exact ⟨cv', by rw [put_tmp (e := 0) (hno k (.inr rfl) o ho)]; exact e1, e2.mono hX0⟩
  · have := iv.sz; cases hd : o.dst <;> simp [Act.put, this]
  · have := iv.df; cases hd : o.dst <;> simp [Act.put, this]

theorem Inv.closed (iv : Inv P gl ops nt sc0 H0 n t ρ0 w0 S nx a w ρ) (hc : Cl ops S k) : ∀ i, (S i ∨ i = k) → Cl ops (fun i => S i ∨ i = k) i := by
  intro i hi o ho e he hb
  rcases hi with hi | hi
  · exact .inl (iv.cl i hi o ho e he hb)
  · subst hi; exact .inl (hc o ho e he hb)

/-- The heap before the next effect, seen with the blocks that were made ahead of it. -/
theorem Inv.wide (iv : Inv P gl ops nt sc0 H0 n t ρ0 w0 S nx a w ρ) (g : Good P gl ops nt sc0 H0 n t s) {j : Nat} (hj : nx ≤ j) : HR gl (t.hp nx).f (t.R S ρ j) w := by
  have back : ∀ b L, t.R S ρ j b = some L → (t.R S ρ nx b = some L) ∨ (∃ k, S k ∧ nx < k ∧ (t.kd k).isNew ∧ b = (t.hp k).next ∧ ρ b = some L) := by
    intro b L hb
    rw [R_some] at hb
    by_cases q : ∃ k, S k ∧ nx < k ∧ (t.kd k).isNew ∧ b = (t.hp k).next
    · obtain ⟨k, a, b, c, d⟩ := q; exact .inr ⟨k, a, b, c, d, hb.1⟩
    · refine .inl (R_some.mpr ⟨hb.1, fun k h1 h2 h3 e => q ⟨k, h1, h2, h3, e⟩⟩)
  have gone : ∀ k, S k → nx < k → (t.kd k).isNew → (t.hp nx).f (t.hp k).next = none := fun k h1 h2 h3 => g.abs k (iv.lt k h1) h3 nx (by omega)
  have lv : ∀ b L, t.R S ρ j b = some L → live (t.hp nx).f b → t.R S ρ nx b = some L := by
    intro b L hb ⟨o, ho, _⟩
    rcases back b L hb with q | ⟨k, h1, h2, h3, h4, h5⟩
    · exact q
    · rw [h4, gone k h1 h2 h3] at ho; cases ho
  refine ⟨fun b L o hb ho => ?_, fun b b' L L' hne hb hb' l l' => iv.hr.sep b b' L L' hne (lv b L hb l) (lv b' L' hb' l') l l', fun b L hb => ?_, fun g0 o hg => ⟨(iv.hr.fixd g0 o hg).1, fun b L hb l => (iv.hr.fixd g0 o hg).2 b L (lv b L hb l) l⟩⟩
  · rcases back b L hb with q | ⟨k, h1, h2, h3, h4, h5⟩
    · exact (iv.hr.obj b L o q ho).stay (R_le hj) rfl
    · rw [h4, gone k h1 h2 h3] at ho; cases ho
  · rcases back b L hb with q | ⟨k, h1, h2, h3, h4, h5⟩
    · exact iv.hr.inn b L q
    · obtain ⟨ob, h3⟩ := Kd.new_of h3
      obtain ⟨c, tot, q1, _, q2, _⟩ := iv.fl k ob h1 h2 h3
      rw [← h4, h5] at q1; injection q1 with q1; subst q1; exact q2

/-- An elder heap: less is known of it. -/
theorem Good.back (g : Good P gl ops nt sc0 H0 n t s) {i j : Nat} (hij : i ≤ j) (hj : j ≤ n) (ha : ∀ p, i ≤ p → p < j → ¬ (t.kd p).isAct) {σ : Ren} (hr : HR gl (t.hp j).f σ w) : HR gl (t.hp i).f σ w := by
  refine hr.less fun b L o hb ho hd => ?_
  rw [← ho]
  refine g.seg hij hj ha b fun k h1 h2 h3 e => ?_
  rw [e, g.abs k (by omega) h3 i h1] at ho
  cases ho
end inv
end

end Go.Proofs.YtmgigdklcaepdaaGreatDoor.Ax

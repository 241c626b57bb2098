/-
  Regions that draw their order: the walker, and what it shows.
-/
import Derived.Test.YtmgigdklcaepdaaGreatDoorXq
set_option linter.unusedVariables false
set_option linter.unusedSimpArgs false
namespace Go.Proofs.YtmgigdklcaepdaaGreatDoor.Ax
set_option linter.unusedVariables false
set_option linter.unusedSimpArgs false

variable {P : Program} {T : Tab}

noncomputable abbrev gPo (g : Option (AVal × Bool)) (o : KP → Nat) (k : KP) : Nat := Option.rec (motive := fun _ => Nat) (o k) (fun p => Prod.rec (motive := fun _ => Nat) (fun c w => gP c w o k) p) g
noncomputable abbrev gEo (g : Option (AVal × Bool)) (H : Heap) (o : K → Nat) (k : K) : Nat := Option.rec (motive := fun _ => Nat) (o k) (fun p => Prod.rec (motive := fun _ => Nat) (fun c w => gE c w H o k) p) g
def edgesOk (i : Nat) (o : Oper) : Bool := o.after.toList.all fun e => !(Region.binds .any e) || Nat.ble (e.on + 1) i
def maskOf (ms : List Nat) (o : Oper) : Nat := o.after.toList.foldl (fun s e => match Region.binds .any e with | true => (s ||| 2 ^ e.on) ||| ms.getD e.on 0 | false => s) 0
def apartOk (ops : Array Oper) (m : Nat) (o : Oper) : Nat → Bool
  | 0 => true
  | j + 1 => (Nat.testBit m j || (match ops[j]? with | some oj => Oper.apart ops oj o | none => true)) && apartOk ops m o j
def Sc.only (ts : List Nat) (sc : Sc) : Sc := sc.filter fun p => ts.contains p.1

noncomputable def masksA (ms : List Nat) (os : List Oper) : List Nat := List.rec (motive := fun _ => List Nat → List Nat) (fun ms => ms) (fun o _ ih ms => ih (ms ++ [maskOf ms o])) os ms
noncomputable def masks (ops : Array Oper) : List Nat := masksA [] ops.toList
/-- What is asked of a region, once: edges go back; what names one temporary is in order. -/
noncomputable def drawOkA (ops : Array Oper) : List Oper → Nat → Bool
  | [], _ => true
  | o :: os, i => edgesOk i o && (apartOk ops ((masks ops).getD i 0) o i && drawOkA ops os (i + 1))
noncomputable def drawOk (ops : Array Oper) : Bool := drawOkA ops ops.toList 0

structure Wk where
  rds : List (Nat × (Heap → KP → Nat) × AVal)
  effs : List (Nat × Heap)
  nes : List Nat
  hs : List Heap
  sc : Sc
  H : Heap

noncomputable abbrev cksB (r : Heap → KP → Nat) (m : Nat) (v : AVal) (l : List (Nat × Heap)) (rest : Nat) : Nat :=
  List.rec (motive := fun _ => Nat) rest (fun p _ ih => Prod.rec (motive := fun _ => Nat) (fun j h => Bool.rec (motive := fun _ => Nat) (ck (r h) v ih) ih (Nat.testBit m j)) p) l
noncomputable abbrev cksA (m : Nat) (H' : Heap) (l : List (Nat × (Heap → KP → Nat) × AVal)) (rest : Nat) : Nat :=
  List.rec (motive := fun _ => Nat) rest (fun p _ ih => Prod.rec (motive := fun _ => Nat) (fun j q => Prod.rec (motive := fun _ => Nat) (fun r v => Bool.rec (motive := fun _ => Nat) (ck (r H') v ih) ih (Nat.testBit m j)) q) p) l

noncomputable def denDrawC (T : Tab) (G : Glob) (ops : Array Oper) (nt : Nat) (rec : Rec) (k : Sc → Heap → Nat) (is : List Nat) : List (Nat × (Heap → KP → Nat) × AVal) → List (Nat × Heap) → List Nat → List Heap → Sc → Heap → Nat :=
  List.rec (motive := fun _ => List (Nat × (Heap → KP → Nat) × AVal) → List (Nat × Heap) → List Nat → List Heap → Sc → Heap → Nat) (fun _ _ _ _ sc H => k sc H) (fun i _ ih rds effs nes hs sc H => match ops[i]? with
    | none => fail
    | some o => match guardOf ops sc o with
        | none => fail
        | some g => match denOp T G sc o with
          | .mv v => gPo g (fun k => k v) fun v => ih rds effs nes hs (sc.put nt o.dst v) H
          | .val f => gPo g (fun k => f k) fun v => ih rds effs nes hs (sc.put nt o.dst v) H
          | .read f => gPo g (fun k => f H k) fun v => cksB (fun H => gPo g (fun k => f H k)) ((masks ops).getD i 0) v effs
              (ih ((i, (fun H => gPo g (fun k => f H k)), v) :: rds) effs nes hs (sc.put nt o.dst v) H)
          | .new f => gEo g H (fun k => f H k) fun v H' => absents hs H (ih rds effs (i :: nes) (H' :: hs) (sc.put nt o.dst v) H')
          | .act f => match nes.all (Nat.testBit ((masks ops).getD i 0)) with
            | false => fail
            | true => gEo g H (fun k => f rec H k) fun v H' => mono H H' (cksA ((masks ops).getD i 0) H' rds
              (ih rds ((i, H) :: effs) (i :: nes) (H' :: hs) (sc.put nt o.dst v) H'))
          | .bad => fail) is
noncomputable def denDraw (T : Tab) (G : Glob) (ops : Array Oper) (nt : Nat) (rec : Rec) (k : Sc → Heap → Nat) (is : List Nat) (s : Wk) : Nat := denDrawC T G ops nt rec k is s.rds s.effs s.nes s.hs s.sc s.H
theorem denDraw_cons {T : Tab} {G : Glob} {ops : Array Oper} {nt : Nat} {rec : Rec} {k : Sc → Heap → Nat} (i : Nat) (is : List Nat) (s : Wk) : denDraw T G ops nt rec k (i :: is) s = (match ops[i]? with
    | none => fail
    | some o => match guardOf ops s.sc o with
        | none => fail
        | some g => match denOp T G s.sc o with
          | .mv v => gPo g (fun k => k v) fun v => denDraw T G ops nt rec k is { s with sc := s.sc.put nt o.dst v }
          | .val f => gPo g (fun k => f k) fun v => denDraw T G ops nt rec k is { s with sc := s.sc.put nt o.dst v }
          | .read f => gPo g (fun k => f s.H k) fun v => cksB (fun H => gPo g (fun k => f H k)) ((masks ops).getD i 0) v s.effs
              (denDraw T G ops nt rec k is { s with sc := s.sc.put nt o.dst v, rds := (i, (fun H => gPo g (fun k => f H k)), v) :: s.rds })
          | .new f => gEo g s.H (fun k => f s.H k) fun v H' => absents s.hs s.H
              (denDraw T G ops nt rec k is { s with sc := s.sc.put nt o.dst v, nes := i :: s.nes, hs := H' :: s.hs, H := H' })
          | .act f => match s.nes.all (Nat.testBit ((masks ops).getD i 0)) with
            | false => fail
            | true => gEo g s.H (fun k => f rec s.H k) fun v H' => mono s.H H' (cksA ((masks ops).getD i 0) H' s.rds
              (denDraw T G ops nt rec k is { s with sc := s.sc.put nt o.dst v, effs := (i, s.H) :: s.effs, nes := i :: s.nes, hs := H' :: s.hs, H := H' }))
          | .bad => fail) := rfl

/-! ### what it shows -/

/-- A trace: heaps, scopes, values, kinds, what is ahead of each. -/
structure Tr where
  hp : Nat → Heap
  sc : Nat → Sc
  v : Nat → AVal
  kd : Nat → Kd
  m : Nat → Nat

def Kd.isNew : Kd → Prop
  | .new _ => True
  | _ => False
def Kd.isAct : Kd → Prop
  | .act => True
  | _ => False
def Kd.isRead : Kd → Prop
  | .read => True
  | _ => False

/-- What an operation stands behind lies in a set. -/
def Cl (ops : Array Oper) (S : Nat → Prop) (i : Nat) : Prop := ∀ o, ops[i]? = some o → ∀ e ∈ o.after.toList, Region.binds .any e = true → S e.on

/-- An operation's fact, its scope cut to what it looks at. -/
abbrev Tr.F (t : Tr) (P : Program) (gl : Fixed) (ops : Array Oper) (i : Nat) (o : Oper) (H : Heap) (u : AVal) (H' : Heap) (kd : Kd) : Prop := StepF P gl ops ((t.sc i).only (o.looksAt ops)) o H u H' kd

structure Good (P : Program) (gl : Fixed) (ops : Array Oper) (nt : Nat) (sc0 : Sc) (H0 : Heap) (n : Nat) (t : Tr) (s : Wk) : Prop where
  h0 : t.hp 0 = H0
  s0 : t.sc 0 = sc0
  hn : s.H = t.hp n
  sn : s.sc = t.sc n
  ms : ∀ i, i < n → t.m i = (masks ops).getD i 0
  op : ∀ i, i < n → ∃ o, ops[i]? = some o ∧ edgesOk i o = true ∧ apartOk ops (t.m i) o i = true ∧ t.sc (i + 1) = (t.sc i).put nt o.dst (t.v i) ∧ t.F P gl ops i o (t.hp i) (t.v i) (t.hp (i + 1)) (t.kd i)
  mask : ∀ i, i < n → ∀ S : Nat → Prop, (∀ j, S j → Cl ops S j) → Cl ops S i → ∀ j, (t.m i).testBit j = true → S j
  mono : ∀ i, i < n → (t.hp i).next ≤ (t.hp (i + 1)).next
  rdB : ∀ i, i < n → (t.kd i).isRead → ∀ j, j < i → (t.kd j).isAct → (t.m i).testBit j = false → ∀ o, ops[i]? = some o → t.F P gl ops i o (t.hp j) (t.v i) (t.hp j) .read
  rdA : ∀ i, (t.kd i).isRead → ∀ j, i < j → j < n → (t.kd j).isAct → (t.m j).testBit i = false → ∀ o, ops[i]? = some o → t.F P gl ops i o (t.hp (j + 1)) (t.v i) (t.hp (j + 1)) .read
  ord : ∀ i, i < n → (t.kd i).isAct → ∀ j, j < i → ((t.kd j).isAct ∨ (t.kd j).isNew) → (t.m i).testBit j = true
  abs : ∀ i, i < n → (t.kd i).isNew → ∀ j, j ≤ i → (t.hp j).f (t.hp i).next = none
  effs : ∀ j, j < n → (t.kd j).isAct → (j, t.hp j) ∈ s.effs
  rdsC : ∀ x ∈ s.rds, ∀ H kv, x.2.1 H kv = 1 → ∃ u, kv u = 1
  rds : ∀ i, i < n → (t.kd i).isRead → ∃ r, (i, r, t.v i) ∈ s.rds ∧ ∀ H kv, r H kv = 1 → ∃ u, kv u = 1 ∧ ∀ o, ops[i]? = some o → t.F P gl ops i o H u H .read
  nes : ∀ j, j < n → ((t.kd j).isAct ∨ (t.kd j).isNew) → j ∈ s.nes
  hs : ∀ j, j ≤ n → t.hp j ∈ s.hs

def updF {α : Type} (f : Nat → α) (n : Nat) (x : α) : Nat → α := fun j => if j = n then x else f j
theorem updF_at {α : Type} (f : Nat → α) (n : Nat) (x : α) : updF f n x n = x := by simp [updF]
theorem updF_ne {α : Type} (f : Nat → α) {n j : Nat} (x : α) (h : j ≠ n) : updF f n x j = f j := by simp [updF, h]
def Tr.ext (t : Tr) (n : Nat) (H' : Heap) (sc' : Sc) (v : AVal) (kd : Kd) (m : Nat) : Tr := ⟨updF t.hp (n + 1) H', updF t.sc (n + 1) sc', updF t.v n v, updF t.kd n kd, updF t.m n m⟩

theorem ck_one {r : KP → Nat} {v : AVal} {rest : Nat} (hr : ∀ kv, r kv = 1 → ∃ u, kv u = 1) (h : ck r v rest = 1) : rest = 1 := by
  obtain ⟨u, hu⟩ := hr _ h
  rcases ifB_one hu with ⟨_, h1⟩ | ⟨_, h1⟩
  · exact h1
  · cases h1
theorem ck_fact {r : KP → Nat} {v : AVal} {rest : Nat} {A : AVal → Prop} (hr : ∀ kv, r kv = 1 → ∃ u, kv u = 1 ∧ A u) (h : ck r v rest = 1) : A v := by
  obtain ⟨u, hu, ha⟩ := hr _ h
  rcases ifB_one hu with ⟨e, h1⟩ | ⟨_, h1⟩
  · rw [← eqV_true e]; exact ha
  · cases h1
theorem cksB_one {r : Heap → KP → Nat} {m : Nat} {v : AVal} {A : Heap → AVal → Prop} (hr : ∀ H kv, r H kv = 1 → ∃ u, kv u = 1 ∧ A H u) : ∀ {l : List (Nat × Heap)} {rest : Nat}, cksB r m v l rest = 1 → rest = 1 ∧ ∀ j h, (j, h) ∈ l → m.testBit j = false → A h v
  | [], rest, h => ⟨h, fun j h hm => by cases hm⟩
  | (j, h) :: l, rest, hk => by
    have hk : (match Nat.testBit m j with | true => cksB r m v l rest | false => ck (r h) v (cksB r m v l rest)) = 1 := by
      have h0 : (Bool.rec (motive := fun _ => Nat) (ck (r h) v (cksB r m v l rest)) (cksB r m v l rest) (Nat.testBit m j) : Nat) = 1 := hk
      cases hb : Nat.testBit m j <;> rw [hb] at h0 <;> exact h0
    split at hk
    · rename_i hb
      obtain ⟨h1, h2⟩ := cksB_one hr hk
      refine ⟨h1, fun j' h' hm ht => ?_⟩
      rcases List.mem_cons.mp hm with e | hm
      · injection e with e1 e2; subst e1; rw [hb] at ht; cases ht
      · exact h2 j' h' hm ht
    · have h0 := ck_one (fun kv q => let ⟨u, a, _⟩ := hr h kv q; ⟨u, a⟩) hk
      have hf := ck_fact (hr h) hk
      obtain ⟨h1, h2⟩ := cksB_one hr h0
      refine ⟨h1, fun j' h' hm ht => ?_⟩
      rcases List.mem_cons.mp hm with e | hm
      · injection e with e1 e2; subst e2; exact hf
      · exact h2 j' h' hm ht
theorem cksA_one {m : Nat} {H' : Heap} : ∀ {l : List (Nat × (Heap → KP → Nat) × AVal)} {rest : Nat}, (∀ x ∈ l, ∀ H kv, x.2.1 H kv = 1 → ∃ u, kv u = 1) → cksA m H' l rest = 1 → rest = 1 ∧ ∀ j r v, (j, r, v) ∈ l → m.testBit j = false → ∃ rest', ck (r H') v rest' = 1
  | [], rest, hc, h => ⟨h, fun j r v hm => by cases hm⟩
  | (j, r, v) :: l, rest, hc, hk => by
    have hk : (match Nat.testBit m j with | true => cksA m H' l rest | false => ck (r H') v (cksA m H' l rest)) = 1 := by
      have h0 : (Bool.rec (motive := fun _ => Nat) (ck (r H') v (cksA m H' l rest)) (cksA m H' l rest) (Nat.testBit m j) : Nat) = 1 := hk
      cases hb : Nat.testBit m j <;> rw [hb] at h0 <;> exact h0
    split at hk
    · rename_i hb
      obtain ⟨h1, h2⟩ := cksA_one (fun x hx => hc x (List.mem_cons_of_mem _ hx)) hk
      refine ⟨h1, fun j' r' v' hm ht => ?_⟩
      rcases List.mem_cons.mp hm with e | hm
      · injection e with e1 e2; subst e1; rw [hb] at ht; cases ht
      · exact h2 j' r' v' hm ht
    · have h0 := ck_one (hc _ List.mem_cons_self H') hk
      obtain ⟨h1, h2⟩ := cksA_one (fun x hx => hc x (List.mem_cons_of_mem _ hx)) h0
      refine ⟨h1, fun j' r' v' hm ht => ?_⟩
      rcases List.mem_cons.mp hm with e | hm
      · injection e with e1 e2; injection e2 with e2 e3; subst e2 e3; exact ⟨_, hk⟩
      · exact h2 j' r' v' hm ht
theorem absent_one {H' H : Heap} {rest : Nat} (h : absent H' H rest = 1) : H'.f H.next = none ∧ rest = 1 := by
  obtain ⟨t, n⟩ := H'
  obtain ⟨t2, b⟩ := H
  have h : t.get b (fun _ => 497) rest = 1 := h
  rw [Trie.get_eq] at h
  show t.look b = none ∧ _
  cases hl : t.look b with
  | none => rw [hl] at h; exact ⟨rfl, h⟩
  | some v => rw [hl] at h; cases h
theorem absents_one {H : Heap} : ∀ {hs : List Heap} {rest : Nat}, absents hs H rest = 1 → (∀ h ∈ hs, h.f H.next = none) ∧ rest = 1
  | [], rest, h => ⟨(fun h hm => by cases hm), h⟩
  | x :: hs, rest, h => by
    obtain ⟨h1, h2⟩ := absent_one (show absent x H (absents hs H rest) = 1 from h)
    obtain ⟨h3, h4⟩ := absents_one h2
    exact ⟨fun y hy => by rcases List.mem_cons.mp hy with e | e; exact e ▸ h1; exact h3 y e, h4⟩
theorem mono_one {H H' : Heap} {rest : Nat} (h : mono H H' rest = 1) : H.next ≤ H'.next ∧ rest = 1 := by
  rcases ifB_one h with ⟨e, h1⟩ | ⟨_, h1⟩
  · exact ⟨Nat.le_of_ble_eq_true e, h1⟩
  · cases h1

theorem maskOf_bit (ms : List Nat) (l : List Edge) (j : Nat) : ∀ s : Nat, (l.foldl (fun s e => match Region.binds .any e with | true => (s ||| 2 ^ e.on) ||| ms.getD e.on 0 | false => s) s).testBit j = true →
    s.testBit j = true ∨ ∃ e ∈ l, Region.binds .any e = true ∧ (j = e.on ∨ (ms.getD e.on 0).testBit j = true) := by
  induction l with
  | nil => intro s h; exact .inl h
  | cons e l ih =>
    intro s h
    rcases ih _ h with h | ⟨e', he, q⟩
    · cases hb : Region.binds .any e with
      | false => simp only [hb] at h; exact .inl h
      | true =>
        simp only [hb] at h
        simp only [Nat.testBit_or, Bool.or_eq_true, Nat.testBit_two_pow, decide_eq_true_eq] at h
        rcases h with (h | h) | h
        · exact .inl h
        · exact .inr ⟨e, List.mem_cons_self, hb, .inl h.symm⟩
        · exact .inr ⟨e, List.mem_cons_self, hb, .inr h⟩
    · exact .inr ⟨e', List.mem_cons_of_mem _ he, q⟩

theorem masksA_eq : ∀ (os : List Oper) (ms : List Nat), ∃ rest, masksA ms os = ms ++ rest ∧ ∀ i o, os[i]? = some o → rest[i]? = some (maskOf (ms ++ rest.take i) o)
  | [], ms => ⟨[], by simp [masksA], fun i o h => by simp at h⟩
  | o :: os, ms => by
    obtain ⟨rest, h1, h2⟩ := masksA_eq os (ms ++ [maskOf ms o])
    refine ⟨maskOf ms o :: rest, ?_, fun i o' ho => ?_⟩
    · show masksA (ms ++ [maskOf ms o]) os = _
      rw [h1]; simp
    · cases i with
      | zero => simp at ho; subst ho; simp
      | succ i =>
        have := h2 i o' (by simpa using ho)
        simpa using this
theorem masks_at {ops : Array Oper} {i : Nat} {o : Oper} (h : ops[i]? = some o) : (masks ops).getD i 0 = maskOf ((masks ops).take i) o := by
  obtain ⟨rest, h1, h2⟩ := masksA_eq ops.toList []
  have h3 := h2 i o (by simpa using h)
  have e : masks ops = rest := by unfold masks; rw [h1]; rfl
  rw [e]
  simp [List.getD, h3]
theorem drawOkA_spec {ops : Array Oper} : ∀ {os : List Oper} {i : Nat}, drawOkA ops os i = true → ∀ j o, os[j]? = some o → edgesOk (i + j) o = true ∧ apartOk ops ((masks ops).getD (i + j) 0) o (i + j) = true
  | [], i, h, j, o, ho => by simp at ho
  | o' :: os, i, h, j, o, ho => by
    unfold drawOkA at h
    rw [Bool.and_eq_true, Bool.and_eq_true] at h
    cases j with
    | zero => simp at ho; subst ho; exact ⟨h.1, h.2.1⟩
    | succ j =>
      have := drawOkA_spec h.2.2 j o (by simpa using ho)
      rw [show i + 1 + j = i + (j + 1) by omega] at this
      exact this
theorem drawOk_spec {ops : Array Oper} (h : drawOk ops = true) {j : Nat} {o : Oper} (ho : ops[j]? = some o) : edgesOk j o = true ∧ apartOk ops ((masks ops).getD j 0) o j = true := by
  have := drawOkA_spec h j o (by simpa using ho)
  simpa using this
theorem masks_cl {ops : Array Oper} (hst : drawOk ops = true) {S : Nat → Prop} (hS : ∀ j, S j → Cl ops S j) : ∀ i, i < ops.size → Cl ops S i → ∀ j, ((masks ops).getD i 0).testBit j = true → S j := by
  intro i
  induction i using Nat.strongRecOn with
  | _ i ih =>
    intro hi hc j hj
    obtain ⟨o, ho⟩ : ∃ o, ops[i]? = some o := ⟨ops[i], by simp [hi]⟩
    rw [masks_at ho] at hj
    rcases maskOf_bit _ _ _ _ hj with q | ⟨e, hm, hb, q⟩
    · simp at q
    · have hse := hc o ho e hm hb
      rcases q with q | q
      · exact q ▸ hse
      · have hlt : e.on < i := by
          have := List.all_eq_true.mp (drawOk_spec hst ho).1 e hm
          rw [hb] at this
          have := Nat.le_of_ble_eq_true (by simpa using this)
          omega
        have e0 : ((masks ops).take i).getD e.on 0 = (masks ops).getD e.on 0 := by simp [List.getD, List.getElem?_take, hlt]
        rw [e0] at q
        exact ih e.on hlt (by omega) (hS _ hse) j q

theorem only_get {ts : List Nat} {d : Nat} (hd : d ∈ ts) : ∀ (sc : Sc), (sc.only ts).get d = sc.get d
  | [] => rfl
  | (u, x) :: sc => by
    unfold Sc.only
    rw [List.filter_cons]
    by_cases hu : u ∈ ts
    · rw [if_pos (by simpa using hu)]
      show (if u = d then some x else Sc.get (Sc.only ts sc) d) = (if u = d then some x else Sc.get sc d)
      rw [only_get hd sc]
    · rw [if_neg (by simpa using hu)]
      show Sc.get (Sc.only ts sc) d = (if u = d then some x else Sc.get sc d)
      rw [if_neg (fun e : u = d => hu (by rw [e]; exact hd)), only_get hd sc]
theorem opds_congr {sc sc' : Sc} : ∀ {xs : List Operand}, (∀ x ∈ xs, opd sc x = opd sc' x) → opds sc xs = opds sc' xs
  | [], _ => rfl
  | x :: xs, h => by
    unfold opds
    rw [h x List.mem_cons_self, opds_congr fun y hy => h y (List.mem_cons_of_mem _ hy)]
theorem opdO_congr {sc sc' : Sc} {x : Option Operand} (h : ∀ y ∈ x, opd sc y = opd sc' y) : opdO sc x = opdO sc' x := by
  cases x with
  | none => rfl
  | some x =>
    show (opd sc x).map some = (opd sc' x).map some
    rw [h x rfl]
theorem denOp_congr {T : Tab} {G : Glob} {sc sc' : Sc} {o : Oper} (h : ∀ x ∈ o.op.operands, opd sc x = opd sc' x) : denOp T G sc o = denOp T G sc' o := by
  obtain ⟨dst, op, type, pos, after, guard⟩ := o
  cases op <;> simp only [Op.operands] at h <;> try simp only [denOp, den1, den2, den3]
  case build t ps => rw [show denL sc (ps.toList.map (·.2)) = denL sc' (ps.toList.map (·.2)) from funext fun f => by unfold denL; rw [opds_congr fun x hx => h x (by simpa using hx)]]
  case buildSlice t n ps => rw [show denL sc (ps.toList.map (·.2)) = denL sc' (ps.toList.map (·.2)) from funext fun f => by unfold denL; rw [opds_congr fun x hx => h x (by simpa using hx)]]
  case makeFunc f first cap => cases f <;> first | rfl | (simp only [denOp, denL]; rw [opds_congr fun x hx => h x (by simpa using hx)])
  case makeMap t r => cases r <;> rfl
  case slice t x lo hi mx =>
    rw [h x (by simp), opdO_congr (x := lo) fun y hy => h y (by cases hy; simp), opdO_congr (x := hi) fun y hy => h y (by cases hy; simp)]
    cases mx with
    | none => cases T.und t with
      | none => rfl
      | some d => cases d <;> rfl
    | some m =>
      have hm := h m (by simp)
      cases T.und t with
      | none => rfl
      | some d => cases d <;> first | rfl | (dsimp only; rw [hm])
  case call c =>
    have e : ∀ f, denL sc c.args.toList f = denL sc' c.args.toList f := fun f => by unfold denL; rw [opds_congr fun x hx => h x (by simp [Call.operands]; exact .inr (by simpa using hx))]
    rw [e]
    cases hc : c.callee with
    | value x =>
      have hx := h x (by simp [Call.operands, hc])
      cases x <;> first | rfl | (dsimp only; rw [hx])
    | invoke x m =>
      have hx := h x (by simp [Call.operands, hc])
      dsimp only; rw [hx]
    | builtin b => rfl
  case next x b => cases b <;> first | rfl | (simp only [denOp, den1]; rw [h x (by simp)])
  case typeAssert x a b ok => cases ok <;> first | rfl | (simp only [denOp, den1]; rw [h x (by simp)])
  all_goals first | rfl | (simp_all; done)
theorem looks_op {ops : Array Oper} {o : Oper} (sc : Sc) : ∀ x ∈ o.op.operands, opd sc x = opd (sc.only (o.looksAt ops)) x := by
  intro x hx
  cases x with
  | tmp t =>
    have hm : t ∈ o.looksAt ops := List.mem_append_left _ (List.mem_filterMap.2 ⟨Operand.tmp t, by simpa using hx, rfl⟩)
    exact (only_get hm sc).symm
  | const v => rfl
  | global g => rfl
  | func f => rfl
theorem looks_guard {ops : Array Oper} {o : Oper} (sc : Sc) : guardOf ops sc o = guardOf ops (sc.only (o.looksAt ops)) o := by
  unfold guardOf
  cases hg : o.guard with
  | none => rfl
  | some p =>
    obtain ⟨j, want⟩ := p
    cases hd : (ops[j]?).bind (·.dst) with
    | none => simp only [hd]
    | some d => simp only [hd]; rw [only_get (by simp [Oper.looksAt, hg, hd])]

theorem gPo_one {ops : Array Oper} {sc : Sc} {o : Oper} {g : Option (AVal × Bool)} (hg : guardOf ops sc o = some g) {f : KP → Nat} {k : KP} (h : gPo g f k = 1) : (Open ops sc o ∧ f k = 1) ∨ (Shut ops sc o ∧ k .undef = 1) := by
  cases g with
  | none => exact .inl ⟨.inl hg, h⟩
  | some p =>
    obtain ⟨c, want⟩ := p
    rcases gP_one (show gP c want f k = 1 from h) with ⟨rfl, h1⟩ | ⟨hne, h1⟩
    · exact .inl ⟨.inr ⟨want, hg⟩, h1⟩
    · exact .inr ⟨⟨c, want, hg, hne⟩, h1⟩
theorem gEo_one {ops : Array Oper} {sc : Sc} {o : Oper} {g : Option (AVal × Bool)} (hg : guardOf ops sc o = some g) {H : Heap} {f : K → Nat} {k : K} (h : gEo g H f k = 1) : (Open ops sc o ∧ f k = 1) ∨ (Shut ops sc o ∧ k .undef H = 1) := by
  cases g with
  | none => exact .inl ⟨.inl hg, h⟩
  | some p =>
    obtain ⟨c, want⟩ := p
    rcases gE_one (show gE c want H f k = 1 from h) with ⟨rfl, h1⟩ | ⟨hne, h1⟩
    · exact .inl ⟨.inr ⟨want, hg⟩, h1⟩
    · exact .inr ⟨⟨c, want, hg, hne⟩, h1⟩

/-- One step more. -/
theorem Good.ext {gl : Fixed} {ops : Array Oper} {nt : Nat} {sc0 : Sc} {H0 : Heap} {n : Nat} {t : Tr} {s : Wk} (g : Good P gl ops nt sc0 H0 n t s) {o : Oper} (ho : ops[n]? = some o) (he : edgesOk n o = true) (ha : apartOk ops ((masks ops).getD n 0) o n = true) (hst : drawOk ops = true)
    {v : AVal} {H' : Heap} {kd : Kd} (hf : t.F P gl ops n o s.H v H' kd) (hmono : s.H.next ≤ H'.next) {s' : Wk} (e2 : s'.sc = s.sc.put nt o.dst v) (e3 : s'.H = H')
    (hB : kd.isRead → ∀ j h, (j, h) ∈ s.effs → ((masks ops).getD n 0).testBit j = false → t.F P gl ops n o h v h .read)
    (hA : kd.isAct → ∀ i r u, (i, r, u) ∈ s.rds → ((masks ops).getD n 0).testBit i = false → ∃ rest, ck (r H') u rest = 1)
    (hO : kd.isAct → ∀ j ∈ s.nes, ((masks ops).getD n 0).testBit j = true)
    (hAbs : kd.isNew → ∀ h ∈ s.hs, h.f s.H.next = none)
    (w1 : ∀ x ∈ s.effs, x ∈ s'.effs) (w1' : kd.isAct → (n, s.H) ∈ s'.effs)
    (w2 : ∀ x ∈ s'.rds, ∀ H kv, x.2.1 H kv = 1 → ∃ u, kv u = 1) (w2' : ∀ x ∈ s.rds, x ∈ s'.rds)
    (w3 : kd.isRead → ∃ r, (n, r, v) ∈ s'.rds ∧ ∀ H kv, r H kv = 1 → ∃ u, kv u = 1 ∧ t.F P gl ops n o H u H .read)
    (w4 : ∀ x ∈ s.nes, x ∈ s'.nes) (w4' : kd.isAct ∨ kd.isNew → n ∈ s'.nes) (w5 : ∀ x ∈ s.hs, x ∈ s'.hs) (w5' : H' ∈ s'.hs) :
    Good P gl ops nt sc0 H0 (n + 1) (t.ext n H' (s.sc.put nt o.dst v) v kd ((masks ops).getD n 0)) s' := by
  have hp_le : ∀ j, j ≤ n → (t.ext n H' (s.sc.put nt o.dst v) v kd ((masks ops).getD n 0)).hp j = t.hp j := fun j hj => updF_ne _ _ (by omega)
  have sc_le : ∀ j, j ≤ n → (t.ext n H' (s.sc.put nt o.dst v) v kd ((masks ops).getD n 0)).sc j = t.sc j := fun j hj => updF_ne _ _ (by omega)
  have v_lt : ∀ j, j < n → (t.ext n H' (s.sc.put nt o.dst v) v kd ((masks ops).getD n 0)).v j = t.v j := fun j hj => updF_ne _ _ (by omega)
  have kd_lt : ∀ j, j < n → (t.ext n H' (s.sc.put nt o.dst v) v kd ((masks ops).getD n 0)).kd j = t.kd j := fun j hj => updF_ne _ _ (by omega)
  have m_lt : ∀ j, j < n → (t.ext n H' (s.sc.put nt o.dst v) v kd ((masks ops).getD n 0)).m j = t.m j := fun j hj => updF_ne _ _ (by omega)
  have hp_s : (t.ext n H' (s.sc.put nt o.dst v) v kd ((masks ops).getD n 0)).hp (n + 1) = H' := updF_at _ _ _
  have sc_s : (t.ext n H' (s.sc.put nt o.dst v) v kd ((masks ops).getD n 0)).sc (n + 1) = s.sc.put nt o.dst v := updF_at _ _ _
  have v_s : (t.ext n H' (s.sc.put nt o.dst v) v kd ((masks ops).getD n 0)).v n = v := updF_at _ _ _
  have kd_s : (t.ext n H' (s.sc.put nt o.dst v) v kd ((masks ops).getD n 0)).kd n = kd := updF_at _ _ _
  have m_s : (t.ext n H' (s.sc.put nt o.dst v) v kd ((masks ops).getD n 0)).m n = (masks ops).getD n 0 := updF_at _ _ _
  generalize t.ext n H' (s.sc.put nt o.dst v) v kd ((masks ops).getD n 0) = t' at *
  have F_le : ∀ i, i ≤ n → ∀ o H u H' kd, t'.F P gl ops i o H u H' kd = t.F P gl ops i o H u H' kd := fun i hi o H u H' kd => by unfold Tr.F; rw [sc_le i hi]
  have hnl : n < ops.size := (Array.getElem?_eq_some_iff.1 ho).1
  refine ⟨by rw [hp_le 0 (by omega)]; exact g.h0, by rw [sc_le 0 (by omega)]; exact g.s0, by rw [e3, hp_s], by rw [e2, sc_s], ?_, ?_, ?_, ?_, ?_, ?_, ?_, ?_, ?_, w2, ?_, ?_, ?_⟩
  · intro i hi
    rcases Nat.lt_or_ge i n with h | h
    · rw [m_lt i h]; exact g.ms i h
    · have : i = n := by omega
      subst this
      exact m_s
  · intro i hi
    rcases Nat.lt_or_ge i n with h | h
    · obtain ⟨o', h1, h2, h3, h4, h5⟩ := g.op i h
      exact ⟨o', h1, h2, by rw [m_lt i h]; exact h3, by rw [sc_le _ h, sc_le i (by omega), v_lt i h]; exact h4, by rw [F_le i (by omega), hp_le i (by omega), v_lt i h, hp_le _ h, kd_lt i h]; exact h5⟩
    · have : i = n := by omega
      subst this
      exact ⟨o, ho, he, by rw [m_s]; exact ha, by rw [sc_s, sc_le i (Nat.le_refl _), v_s, g.sn], by rw [F_le i (Nat.le_refl _), hp_le i (Nat.le_refl _), v_s, hp_s, kd_s, ← g.hn]; exact hf⟩
  · intro i hi S hS hc j hj
    rcases Nat.lt_or_ge i n with h | h
    · rw [m_lt i h] at hj; exact g.mask i h S hS hc j hj
    · have : i = n := by omega
      subst this
      rw [m_s] at hj
      exact masks_cl hst hS i hnl hc j hj
  · intro i hi
    rcases Nat.lt_or_ge i n with h | h
    · rw [hp_le i (by omega), hp_le _ h]; exact g.mono i h
    · have : i = n := by omega
      subst this
      rw [hp_le i (Nat.le_refl _), hp_s, ← g.hn]; exact hmono
  · intro i hi hr j hj hact hb o' ho'
    rcases Nat.lt_or_ge i n with h | h
    · rw [kd_lt i h] at hr; rw [kd_lt j (by omega)] at hact; rw [m_lt i h] at hb
      rw [F_le i (by omega), hp_le j (by omega), v_lt i h]; exact g.rdB i h hr j hj hact hb o' ho'
    · have : i = n := by omega
      subst this
      rw [ho] at ho'; injection ho' with ho'; subst ho'
      rw [kd_s] at hr; rw [kd_lt j hj] at hact; rw [m_s] at hb
      rw [F_le i (Nat.le_refl _), hp_le j (by omega), v_s]; exact hB hr j _ (g.effs j hj hact) hb
  · intro i hr j hij hj hact hb o' ho'
    rw [kd_lt i (by omega)] at hr
    rcases Nat.lt_or_ge j n with h | h
    · rw [kd_lt j h] at hact; rw [m_lt j h] at hb
      rw [F_le i (by omega), hp_le (j + 1) h, v_lt i (by omega)]; exact g.rdA i hr j hij h hact hb o' ho'
    · have : j = n := by omega
      subst this
      rw [kd_s] at hact; rw [m_s] at hb
      obtain ⟨r, hr1, hr2⟩ := g.rds i hij hr
      obtain ⟨rest, hck⟩ := hA hact i r _ hr1 hb
      rw [F_le i (by omega), hp_s, v_lt i hij]
      exact ck_fact (A := fun u => ∀ o, ops[i]? = some o → t.F P gl ops i o H' u H' .read) (hr2 H') hck o' ho'
  · intro i hi hact j hj hk
    rcases Nat.lt_or_ge i n with h | h
    · rw [kd_lt i h] at hact; rw [kd_lt j (by omega)] at hk; rw [m_lt i h]; exact g.ord i h hact j hj hk
    · have : i = n := by omega
      subst this
      rw [kd_s] at hact; rw [kd_lt j hj] at hk; rw [m_s]; exact hO hact j (g.nes j hj hk)
  · intro i hi hn j hj
    rcases Nat.lt_or_ge i n with h | h
    · rw [kd_lt i h] at hn; rw [hp_le j (by omega), hp_le i (by omega)]; exact g.abs i h hn j hj
    · have : i = n := by omega
      subst this
      rw [kd_s] at hn; rw [hp_le j hj, hp_le i (Nat.le_refl _), ← g.hn]; exact hAbs hn _ (g.hs j hj)
  · intro j hj hact
    rcases Nat.lt_or_ge j n with h | h
    · rw [kd_lt j h] at hact; rw [hp_le j (by omega)]; exact w1 _ (g.effs j h hact)
    · have : j = n := by omega
      subst this
      rw [kd_s] at hact; rw [hp_le j (Nat.le_refl _), ← g.hn]; exact w1' hact
  · intro i hi hr
    rcases Nat.lt_or_ge i n with h | h
    · rw [kd_lt i h] at hr
      obtain ⟨r, h1, h2⟩ := g.rds i h hr
      refine ⟨r, by rw [v_lt i h]; exact w2' _ h1, fun H kv hk => ?_⟩
      obtain ⟨u, a, b⟩ := h2 H kv hk
      exact ⟨u, a, fun o' ho' => by rw [F_le i (by omega)]; exact b o' ho'⟩
    · have : i = n := by omega
      subst this
      rw [kd_s] at hr
      obtain ⟨r, h1, h2⟩ := w3 hr
      refine ⟨r, by rw [v_s]; exact h1, fun H kv hk => ?_⟩
      obtain ⟨u, a, b⟩ := h2 H kv hk
      exact ⟨u, a, fun o' ho' => by rw [ho] at ho'; injection ho' with ho'; subst ho'; rw [F_le i (Nat.le_refl _)]; exact b⟩
  · intro j hj hk
    rcases Nat.lt_or_ge j n with h | h
    · rw [kd_lt j h] at hk; exact w4 _ (g.nes j h hk)
    · have : j = n := by omega
      subst this
      rw [kd_s] at hk; exact w4' hk
  · intro j hj
    rcases Nat.lt_or_ge j (n + 1) with h | h
    · rw [hp_le j (by omega)]; exact w5 _ (g.hs j (by omega))
    · have : j = n + 1 := by omega
      subst this
      rw [hp_s]; exact w5'

theorem denDraw_one {gl : Fixed} {G : Glob} (hG : GOk gl G) (hT : TabOk P T) {ops : Array Oper} (hst : drawOk ops = true) {nt : Nat} {rec : Rec} (hrec : RecOk P gl rec) {k : Sc → Heap → Nat} {sc0 : Sc} {H0 : Heap} : ∀ (c n : Nat) {t : Tr} {s : Wk}, Good P gl ops nt sc0 H0 n t s →
    denDraw T G ops nt rec k (List.range' n c) s = 1 → ∃ t' s', Good P gl ops nt sc0 H0 (n + c) t' s' ∧ k s'.sc s'.H = 1
  | 0, n, t, s, g, h => ⟨t, s, g, h⟩
  | c + 1, n, t, s, g, h => by
    rw [List.range'_succ, denDraw_cons] at h
    split at h
    · cases h
    · rename_i o ho
      obtain ⟨he, ha⟩ := drawOk_spec hst ho
      rw [looks_guard (ops := ops) s.sc, denOp_congr (looks_op (ops := ops) s.sc)] at h
      · skip
        split at h
        · cases h
        · rename_i gd hg
          have hok := denOp_ok hG hT (gl := gl) (s.sc.only (o.looksAt ops)) o
          have next : ∀ {t' : Tr} {s' : Wk}, denDraw T G ops nt rec k (List.range' (n + 1) c) s' = 1 → Good P gl ops nt sc0 H0 (n + 1) t' s' → ∃ t' s', Good P gl ops nt sc0 H0 (n + (c + 1)) t' s' ∧ k s'.sc s'.H = 1 := by
            intro t' s' h' g'
            have := denDraw_one hG hT hst hrec c (n + 1) g' h'
            rw [show n + 1 + c = n + (c + 1) by omega] at this
            exact this
          have shut : ∀ {u}, Shut ops (s.sc.only (o.looksAt ops)) o → u = AVal.undef → t.F P gl ops n o s.H u s.H .pure := fun hs e => by subst e; unfold Tr.F; rw [← g.sn]; exact shut_step hs
          -- an operation that neither reads nor writes
          have pureC : ∀ {v : AVal}, t.F P gl ops n o s.H v s.H .pure → denDraw T G ops nt rec k (List.range' (n + 1) c) { s with sc := s.sc.put nt o.dst v } = 1 → ∃ t' s', Good P gl ops nt sc0 H0 (n + (c + 1)) t' s' ∧ k s'.sc s'.H = 1 := by
            intro v hf h'
            exact next h' (g.ext ho he ha hst hf (Nat.le_refl _) rfl rfl (fun q => q.elim) (fun q => q.elim) (fun q => q.elim) (fun q => q.elim) (fun x hx => hx) (fun q => q.elim) g.rdsC (fun x hx => hx) (fun q => q.elim) (fun x hx => hx) (fun q => by rcases q with q | q <;> exact q.elim) (fun x hx => hx) (by rw [g.hn]; exact g.hs n (Nat.le_refl _)))
          split at h
          · rename_i v hd; rw [hd] at hok
            rcases gPo_one hg h with ⟨hop, h1⟩ | ⟨hsh, h1⟩
            · exact pureC (by unfold Tr.F; rw [← g.sn]; exact open_mv hop hok) h1
            · exact pureC (shut hsh rfl) h1
          · rename_i f hd; rw [hd] at hok
            rcases gPo_one hg h with ⟨hop, h1⟩ | ⟨hsh, h1⟩
            · obtain ⟨v, h1, h2⟩ := hok _ h1
              exact pureC (by unfold Tr.F; rw [← g.sn]; exact ⟨rfl, fun w ρ a ht => let ⟨cv, hr, hv⟩ := h2 w ρ a ht; ⟨cv, hv, fun i K Q hi hK => open_val hop ht hr hi hK⟩⟩) h1
            · exact pureC (shut hsh rfl) h1
          · rename_i f hd; rw [hd] at hok
            -- a read, at whatever heap
            have hR : Open ops (s.sc.only (o.looksAt ops)) o → ∀ H kv, (gPo gd (fun k => f H k)) kv = 1 → ∃ u, kv u = 1 ∧ t.F P gl ops n o H u H .read := by
              intro hop H kv hk
              have hk : f H kv = 1 := by
                rcases gPo_one hg hk with ⟨_, q⟩ | ⟨⟨c', want, hq, hne⟩, _⟩
                · exact q
                · rcases hop with hop | ⟨w2, hop⟩
                  · rw [hq] at hop; cases hop
                  · rw [hq] at hop; injection hop with hop; injection hop with hop; injection hop with e1 e2; subst e2; exact absurd e1 hne
              obtain ⟨u, h1, h2⟩ := hok _ _ hk
              exact ⟨u, h1, by unfold Tr.F; rw [← g.sn]; exact ⟨rfl, fun w ρ a hr ht => let ⟨cv, hx, hv⟩ := h2 w ρ a hr ht; ⟨cv, hv, fun i K Q hi hK => open_val hop ht hx hi hK⟩⟩⟩
            have hC : ∀ H kv, (gPo gd (fun k => f H k)) kv = 1 → ∃ u, kv u = 1 := by
              intro H kv hk
              rcases gPo_one hg hk with ⟨hop, _⟩ | ⟨_, q⟩
              · exact let ⟨u, a, _⟩ := hR hop H kv hk; ⟨u, a⟩
              · exact ⟨_, q⟩
            rcases gPo_one hg h with ⟨hop, h1⟩ | ⟨hsh, h1⟩
            · obtain ⟨v, h2, h3⟩ := hR hop s.H _ h
              obtain ⟨h4, h5⟩ := cksB_one (A := fun H u => t.F P gl ops n o H u H .read) (hR hop) h2
              refine next h4 (g.ext (kd := .read) ho he ha hst h3 (Nat.le_refl _) rfl rfl (fun _ => h5) (fun q => q.elim) (fun q => q.elim) (fun q => q.elim) (fun x hx => hx) (fun q => q.elim) ?_ (fun x hx => List.mem_cons_of_mem _ hx) (fun _ => ⟨_, List.mem_cons_self, hR hop⟩) (fun x hx => hx) (fun q => by rcases q with q | q <;> exact q.elim) (fun x hx => hx) (by rw [g.hn]; exact g.hs n (Nat.le_refl _)))
              intro x hx
              rcases List.mem_cons.mp hx with e | e
              · subst e; exact hC
              · exact g.rdsC x e
            · obtain ⟨h4, _⟩ := cksB_one (A := fun _ _ => True) (fun H kv hk => let ⟨u, a⟩ := hC H kv hk; ⟨u, a, trivial⟩) h1
              refine next h4 (g.ext (kd := .pure) ho he ha hst (shut hsh rfl) (Nat.le_refl _) rfl rfl (fun q => q.elim) (fun q => q.elim) (fun q => q.elim) (fun q => q.elim) (fun x hx => hx) (fun q => q.elim) ?_ (fun x hx => List.mem_cons_of_mem _ hx) (fun q => q.elim) (fun x hx => hx) (fun q => by rcases q with q | q <;> exact q.elim) (fun x hx => hx) (by rw [g.hn]; exact g.hs n (Nat.le_refl _)))
              intro x hx
              rcases List.mem_cons.mp hx with e | e
              · subst e; exact hC
              · exact g.rdsC x e
          · rename_i f hd; rw [hd] at hok
            rcases gEo_one hg h with ⟨hop, h1⟩ | ⟨hsh, h1⟩
            · obtain ⟨v, ob, H', h2, h3, h4⟩ := hok _ _ h1
              obtain ⟨h5, h6⟩ := absents_one h2
              have hf : t.F P gl ops n o s.H v H' (.new ob) := by
                unfold Tr.F; rw [← g.sn]
                exact ⟨h3, fun w ρ a hb ht => let ⟨cv, w', tot, obj, hx, hpu, hob, hv⟩ := h4 w ρ a hb ht; ⟨cv, w', tot, obj, hpu, hob, hv, fun i K Q hi hK => open_val hop ht hx hi hK⟩⟩
              exact next h6 (g.ext (kd := .new ob) ho he ha hst hf (by rw [h3.1]; omega) rfl rfl (fun q => q.elim) (fun q => q.elim) (fun q => q.elim) (fun _ => h5) (fun x hx => hx) (fun q => q.elim) g.rdsC (fun x hx => hx) (fun q => q.elim) (fun x hx => List.mem_cons_of_mem _ hx) (fun _ => List.mem_cons_self) (fun x hx => List.mem_cons_of_mem _ hx) List.mem_cons_self)
            · obtain ⟨h5, h6⟩ := absents_one h1
              exact next h6 (g.ext (kd := .pure) ho he ha hst (shut hsh rfl) (Nat.le_refl _) rfl rfl (fun q => q.elim) (fun q => q.elim) (fun q => q.elim) (fun q => q.elim) (fun x hx => hx) (fun q => q.elim) g.rdsC (fun x hx => hx) (fun q => q.elim) (fun x hx => List.mem_cons_of_mem _ hx) (fun q => by rcases q with q | q <;> exact q.elim) (fun x hx => List.mem_cons_of_mem _ hx) List.mem_cons_self)
          · rename_i f hd; rw [hd] at hok
            split at h
            · cases h
            · rename_i hall
              have hall := List.all_eq_true.mp hall
              rcases gEo_one hg h with ⟨hop, h1⟩ | ⟨hsh, h1⟩
              · obtain ⟨v, H', h2, h3⟩ := hok rec hrec _ _ h1
                obtain ⟨h4, h5⟩ := mono_one h2
                obtain ⟨h6, h7⟩ := cksA_one g.rdsC h5
                have hf : t.F P gl ops n o s.H v H' .act := by
                  unfold Tr.F; rw [← g.sn]
                  intro w ρ a hr hd' ht i K Q hi hK
                  have := h3 w ρ a hr hd' ht K Q hK
                  unfold wpOp
                  simp only [hi, hop.wanted ht, if_true]
                  exact .inl this
                exact next h6 (g.ext (kd := .act) ho he ha hst hf h4 rfl rfl (fun q => q.elim) (fun _ => h7) (fun _ => hall) (fun q => q.elim) (fun x hx => List.mem_cons_of_mem _ hx) (fun _ => List.mem_cons_self) g.rdsC (fun x hx => hx) (fun q => q.elim) (fun x hx => List.mem_cons_of_mem _ hx) (fun _ => List.mem_cons_self) (fun x hx => List.mem_cons_of_mem _ hx) List.mem_cons_self)
              · obtain ⟨h4, h5⟩ := mono_one h1
                obtain ⟨h6, h7⟩ := cksA_one g.rdsC h5
                exact next h6 (g.ext (kd := .pure) ho he ha hst (shut hsh rfl) (Nat.le_refl _) rfl rfl (fun q => q.elim) (fun q => q.elim) (fun q => q.elim) (fun q => q.elim) (fun x hx => List.mem_cons_of_mem _ hx) (fun q => q.elim) g.rdsC (fun x hx => hx) (fun q => q.elim) (fun x hx => List.mem_cons_of_mem _ hx) (fun q => by rcases q with q | q <;> exact q.elim) (fun x hx => List.mem_cons_of_mem _ hx) List.mem_cons_self)
          · cases h

end Go.Proofs.YtmgigdklcaepdaaGreatDoor.Ax

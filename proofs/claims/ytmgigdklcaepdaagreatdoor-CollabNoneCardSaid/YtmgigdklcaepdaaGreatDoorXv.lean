/-
  Functions, calls. · Functions of the library that have no Go text.
-/
import Derived.Test.YtmgigdklcaepdaaGreatDoorXu
import Derived.Laws.Externs
set_option linter.unusedVariables false
set_option linter.unusedSimpArgs false
section
namespace Go.Proofs.YtmgigdklcaepdaaGreatDoor.Ax
set_option linter.unusedVariables false
set_option linter.unusedSimpArgs false

variable {P : Program} {T : Tab}

/-- The results' values. -/
noncomputable def denRes (T : Tab) (G : Glob) (sc : Sc) (H : Heap) : List ResultVar → (List AVal → Nat) → Nat
  | [], k => k []
  | .tmp t :: rs, k => match sc.get t with
    | some v => denRes T G sc H rs fun l => k (v :: l)
    | none => fail
  | .cell a t :: rs, k => match sc.get a, T.isAgg t with
    | some x, some true => match T.size t with
      | some n => pLoadN n x H fun r => denRes T G sc H rs fun l => k (r :: l)
      | none => fail
    | some x, some false => pLoad G x H fun r => denRes T G sc H rs fun l => k (r :: l)
    | _, _ => fail
def retV : List AVal → AVal
  | [v] => v
  | vs => .z (.tuple vs)
noncomputable def takeA (n : Nat) : List AVal → (List AVal → Nat) → Nat := Nat.rec (motive := fun _ => List AVal → (List AVal → Nat) → Nat) (fun vs k => A0 vs (k [])) (fun _ ih vs k => List.rec (motive := fun _ => Nat) 495 (fun v vs _ => ih vs fun l => k (v :: l)) vs) n
def ltAll (ps : List Nat) (nt : Nat) : Bool := match ps with | [] => true | p :: ps => Nat.ble (p + 1) nt && ltAll ps nt
/-- The places begin with the parameters'. -/
def begins : Nat → Nat → List Nat → Bool
  | _, 0, _ => true
  | i, n + 1, p :: ps => Nat.beq p i && begins (i + 1) n ps
  | _, n + 1, [] => false
noncomputable def denFn (T : Tab) (G : Glob) (ps : List Nat) (np nt : Nat) (rs : List ResultVar) (c : Code) : FnD := fun rec vs H k =>
  match Nat.ble np nt && (ltAll ps nt && begins 0 np ps) with
  | true => takeA np vs fun l => appN ps.length (denCode T G ps nt c rec (lamN ps.length fun vs H => denRes T G (scOf ps vs) H rs fun l => k (retV l) H) (lamN ps.length fun vs H => denRes T G (scOf ps vs) H rs fun l => k (retV l) H) fun _ => dead ps.length) (l ++ List.replicate (ps.length - np) .undef) H
  | false => fail

theorem takeA_one : ∀ {n : Nat} {vs : List AVal} {k : List AVal → Nat}, takeA n vs k = 1 → vs.length = n ∧ k vs = 1
  | 0, [], k, h => ⟨rfl, h⟩
  | 0, v :: vs, k, h => by cases h
  | n + 1, [], k, h => by cases h
  | n + 1, v :: vs, k, h => by
    obtain ⟨h1, h2⟩ := takeA_one (n := n) (vs := vs) (k := fun l => k (v :: l)) h
    exact ⟨by simp [h1], h2⟩
theorem ltAll_mem : ∀ {ps : List Nat} {nt : Nat}, ltAll ps nt = true → ∀ p ∈ ps, p < nt
  | p :: ps, nt, h, q, hq => by
    unfold ltAll at h
    rw [Bool.and_eq_true] at h
    rcases List.mem_cons.mp hq with e | hq
    · subst e; exact Nat.le_of_ble_eq_true h.1
    · exact ltAll_mem h.2 q hq
theorem begins_get : ∀ {i n : Nat} {ps : List Nat}, begins i n ps = true → ∀ j, j < n → ps[j]? = some (i + j)
  | i, n + 1, p :: ps, h, 0, hj => by
    unfold begins at h
    rw [Bool.and_eq_true] at h
    have := Nat.eq_of_beq_eq_true h.1
    simp [this]
  | i, n + 1, p :: ps, h, j + 1, hj => by
    unfold begins at h
    rw [Bool.and_eq_true] at h
    have := begins_get h.2 j (by omega)
    simp only [List.getElem?_cons_succ, this]
    congr 1; omega
  | i, n + 1, [], h, j, hj => by cases h
theorem begins_len : ∀ {i n : Nat} {ps : List Nat}, begins i n ps = true → n ≤ ps.length
  | i, 0, ps, h => Nat.zero_le _
  | i, n + 1, p :: ps, h => by
    unfold begins at h
    rw [Bool.and_eq_true] at h
    have := begins_len h.2
    simp; exact this
  | i, n + 1, [], h => by cases h

theorem scOf_get : ∀ {ps : List Nat} {vs : List AVal} {t : Nat} {v : AVal}, (scOf ps vs).get t = some v → ∃ i : Nat, ps[i]? = some t ∧ vs[i]? = some v ∧ ∀ j : Nat, j < i → ps[j]? ≠ some t
  | p :: ps, u :: vs, t, v, h => by
    have h : (if p = t then some u else Sc.get (scOf ps vs) t) = some v := h
    by_cases e : p = t
    · rw [if_pos e] at h; injection h with h; subst h e
      exact ⟨0, rfl, rfl, fun j hj => by omega⟩
    · rw [if_neg e] at h
      obtain ⟨i, h1, h2, h3⟩ := scOf_get h
      refine ⟨i + 1, h1, h2, fun j hj => ?_⟩
      cases j with
      | zero => simpa using e
      | succ j => exact h3 j (by omega)
  | p :: ps, [], t, v, h => by cases h
  | [], vs, t, v, h => by cases h

theorem run_asAddr {t : TypeId} {x : Value} {w : World} {cv : Value} (h : (Instr.loadAt t x).run P w = .ok cv w) (hx : ∃ a, x = .pointer (some a)) : (do loadVar t (← asAddr x) : Sem Value).run P w = .ok cv w := by
  obtain ⟨a, rfl⟩ := hx
  have h : (do loadVar t (← Instr.sureAddr (.pointer (some a))) : Sem Value).run P w = .ok cv w := h
  simpa [Instr.sureAddr, asAddr] using h

def resF (tmps : Array Value) : ResultVar → Sem Value
  | .tmp t => pure (tmps.getD t undef)
  | .cell a t => do loadVar t (← asAddr (tmps.getD a undef))

theorem denRes_one {gl : Fixed} {G : Glob} (hG : GOk gl G) (hT : TabOk P T) {sc : Sc} {H : Heap} : ∀ {rs : List ResultVar} {k : List AVal → Nat}, denRes T G sc H rs k = 1 →
    ∃ l, k l = 1 ∧ ∀ w ρ (tmps : Array Value), HR gl H.f ρ w → TRel ρ sc tmps → ∃ vs, (rs.mapM (resF tmps)).run P w = .ok vs w ∧ LRel ρ l vs
  | [], k, h => ⟨[], h, fun w ρ tmps hr ht => ⟨[], by simp, .nil⟩⟩
  | .tmp t :: rs, k, h => by
    unfold denRes at h
    split at h
    · rename_i v hv
      obtain ⟨l, h1, h2⟩ := denRes_one hG hT h
      refine ⟨v :: l, h1, fun w ρ tmps hr ht => ?_⟩
      obtain ⟨vs, e1, e2⟩ := h2 w ρ tmps hr ht
      obtain ⟨cv, q1, q2⟩ := ht t v hv
      refine ⟨cv :: vs, ?_, .cons q2 e2⟩
      simp only [List.mapM_cons, resF, Sem.run_bind, Sem.run_pure, Result.andThen_ok, e1]
      simp [q1]
    · cases h
  | .cell a t :: rs, k, h => by
    unfold denRes at h
    have ptr : ∀ {x : AVal} {ρ : Ren} {cv : Value} {k1 k2}, onPtr x k1 k2 = 1 → VRel ρ x cv → ∃ ad, cv = .pointer (some ad) := by
      intro x ρ cv k1 k2 ho hv
      rcases onPtr_one ho with ⟨b, o', e1, _⟩ | ⟨g, o', e1, _⟩ <;> subst e1 <;> cases hv <;> exact ⟨_, rfl⟩
    split at h
    · rename_i x hx hag
      obtain ⟨d, hd, hdd⟩ := hT.agg hag
      split at h
      · rename_i n hn
        obtain ⟨i, hi, hs⟩ := hT.info hn
        obtain ⟨r, h1, h2⟩ := pLoadN_ok (P := P) (gl := gl) h hd hdd hi hs
        obtain ⟨l, h3, h4⟩ := denRes_one hG hT h1
        refine ⟨r :: l, h3, fun w ρ tmps hr ht => ?_⟩
        obtain ⟨vs, e1, e2⟩ := h4 w ρ tmps hr ht
        obtain ⟨cx, q1, q2⟩ := ht a x hx
        obtain ⟨cv, q3, q4⟩ := h2 w ρ cx hr q2
        refine ⟨cv :: vs, ?_, .cons q4 e2⟩
        have q5 := run_asAddr q3 (ptr h q2)
        have e0 : tmps.getD a undef = cx := by simp [q1]
        have q6 : (resF tmps (.cell a t)).run P w = .ok cv w := by simp only [resF, e0]; exact q5
        simp only [List.mapM_cons, Sem.run_bind, Sem.run_pure, q6, Result.andThen_ok, e1]
      · cases h
    · rename_i x hx hag
      obtain ⟨d, hd, hdd⟩ := hT.agg hag
      obtain ⟨r, h1, h2⟩ := pLoad_ok (P := P) (gl := gl) h hG hd hdd
      obtain ⟨l, h3, h4⟩ := denRes_one hG hT h1
      refine ⟨r :: l, h3, fun w ρ tmps hr ht => ?_⟩
      obtain ⟨vs, e1, e2⟩ := h4 w ρ tmps hr ht
      obtain ⟨cx, q1, q2⟩ := ht a x hx
      obtain ⟨cv, q3, q4⟩ := h2 w ρ cx hr q2
      refine ⟨cv :: vs, ?_, .cons q4 e2⟩
      have q5 := run_asAddr q3 (ptr h q2)
      have e0 : tmps.getD a undef = cx := by simp [q1]
      have q6 : (resF tmps (.cell a t)).run P w = .ok cv w := by simp only [resF, e0]; exact q5
      simp only [List.mapM_cons, Sem.run_bind, Sem.run_pure, q6, Result.andThen_ok, e1]
    · cases h

theorem run_results {fn : Func} {tmps : Array Value} {w : World} {vs : List Value} (h : (fn.results.toList.mapM (resF tmps)).run P w = .ok vs w) {ρ : Ren} {l : List AVal} (hl : LRel ρ l vs) : ∃ cv, (results fn tmps).run P w = .ok cv w ∧ VRel ρ (retV l) cv := by
  have h0 : (fn.results.mapM (resF tmps)).run P w = .ok vs.toArray w := by
    rw [Array.mapM_eq_mapM_toList]
    simp [h]
  have h1 : (results fn tmps).run P w = .ok (if h : vs.toArray.size = 1 then vs.toArray[0] else .tuple vs.toArray) w := by
    have e : results fn tmps = (do let vs ← fn.results.mapM (resF tmps); pure (if h : vs.size = 1 then vs[0] else .tuple vs)) := by
      unfold results
      congr 1
    rw [e]
    simp only [Sem.run_bind, h0, Result.andThen_ok, Sem.run_pure]
  refine ⟨_, h1, ?_⟩
  match l, vs, hl with
  | [], [], _ => exact .tupleL .nil
  | [v], [cv], hl =>
    obtain ⟨a, b, e, q, _⟩ := hl.uncons
    injection e with e1 e2; subst e1
    exact q
  | v :: u :: r, c :: d :: s, hl => exact .tupleL hl
  | [], c :: s, hl => have := hl.1; simp at this
  | [v], [], hl => have := hl.1; simp at this
  | [v], c :: d :: s, hl => have := hl.1; simp at this
  | v :: u :: r, [], hl => have := hl.1; simp at this
  | v :: u :: r, [c], hl => have := hl.1; simp at this

/-- What is known of one function. -/
def FnOk (P : Program) (gl : Fixed) (f : FuncId) (D : FnD) : Prop :=
  ∀ rec, RecOk P gl rec → ∀ vs H kv, D rec vs H kv = 1 → ∃ v H', kv v H' = 1 ∧ ∀ w ρ (cvs : Array Value), HR gl H.f ρ w → Dom ρ H.next → LRel ρ vs cvs.toList → ∀ o a, Goes P gl H H' v w ρ o a ((callFunc f cvs).run P w)

theorem run_ok {gl : Fixed} {tbl : Trie FnD} (h : ∀ f D, tbl.look f = some D → FnOk P gl f D) : ∀ d, RecOk P gl (run tbl d)
  | 0 => fun f vs H kv hk => by
    have hk : (490 : Nat) = 1 := hk
    cases hk
  | d + 1 => fun f vs H kv hk => by
    have hk : tbl.get f (fun D => D (run tbl d) vs H kv) 491 = 1 := hk
    obtain ⟨D, h1, h2⟩ := Trie.get_one hk (by decide)
    exact h f D h1 (run tbl d) (run_ok h d) vs H kv h2

/-- A function with a text: what its calls do. -/
theorem denFn_calls {gl : Fixed} {G : Glob} (hG : GOk gl G) (hT : TabOk P T) (hM : P.follows .mixedOrders = true) {f : FuncId} {fn : Func} {c : Code} {ps : List Nat} {np : Nat} (hf : P.funcs[f]? = some fn) (hb : fn.body = some c)
    {rec : Rec} (hrec : RecOk P gl rec) {vs : List AVal} {H : Heap} {kv : K} (h : denFn T G ps np fn.ntmps fn.results.toList c rec vs H kv = 1) :
    ∃ v H', kv v H' = 1 ∧ ∀ w ρ (cvs : Array Value), HR gl H.f ρ w → Dom ρ H.next → LRel ρ vs cvs.toList → ∀ R : Ending → World → Prop, (∀ cv ρ' w', Grow H.f ρ w H.next H'.f ρ' w' H'.next → HR gl H'.f ρ' w' → VRel ρ' v cv → R (.returned cv) w') → Calls P f cvs w R := by
  unfold denFn at h
  split at h
  case h_2 => cases h
  rename_i hst
  rw [Bool.and_eq_true, Bool.and_eq_true] at hst
  obtain ⟨hnp, hlt, hbeg⟩ := hst
  have hnp := Nat.le_of_ble_eq_true hnp
  obtain ⟨hvl, h⟩ := takeA_one h
  have hpl := begins_len hbeg
  obtain ⟨e, ke, vs', H', q1, q2, q3, q4⟩ := denCode_ok (ps := ps) (nt := fn.ntmps) hG hT hM c rec hrec _ _ _ (vs ++ List.replicate (ps.length - np) .undef) H (by simp [hvl]; omega) h
  have hres : ∃ l, kv (retV l) H' = 1 ∧ (∀ w ρ (tmps : Array Value), HR gl H'.f ρ w → TRel ρ (scOf ps vs') tmps → ∃ vs, (fn.results.toList.mapM (resF tmps)).run P w = .ok vs w ∧ LRel ρ l vs) ∧ (e = .normal ∨ e = .ret) := by
    cases e with
    | normal =>
      injection q1 with q1; subst q1
      rw [appN_lamN _ _ _ q2] at q3
      obtain ⟨l, r1, r2⟩ := denRes_one hG hT q3
      exact ⟨l, r1, r2, .inl rfl⟩
    | ret =>
      injection q1 with q1; subst q1
      rw [appN_lamN _ _ _ q2] at q3
      obtain ⟨l, r1, r2⟩ := denRes_one hG hT q3
      exact ⟨l, r1, r2, .inr rfl⟩
    | exit id => injection q1 with q1; subst q1; exact absurd q3 (appN_dead _ _ _)
    | goto l => cases q1
    | panic c => cases q1
    | outgrown => cases q1
  obtain ⟨l, r1, r2, r3⟩ := hres
  refine ⟨retV l, H', r1, fun w ρ cvs hr hd hl R hR => calls_of_wp hf hb (q4 w ρ _ ⟨hr, hd, ?_, ?_, rfl⟩ _ fun a' ρ' w' g st => ?_)⟩
  · intro t v hv
    obtain ⟨i, p1, p2, p3⟩ := scOf_get hv
    have hsz : cvs.size = np := by have := hl.1; simp at this; omega
    by_cases hi : i < np
    · have := begins_get hbeg i hi
      rw [p1] at this; injection this with this
      have e : t = i := by omega
      subst e
      rw [List.getElem?_append_left (by omega)] at p2
      obtain ⟨cv, c1, c2⟩ := hl.get p2
      refine ⟨cv, ?_, c2⟩
      rw [Array.getElem?_append_left (by omega)]
      simpa using c1
    · have hv : v = .undef := by
        rw [List.getElem?_append_right (by omega)] at p2
        rw [List.getElem?_replicate] at p2
        split at p2
        · injection p2 with p2; exact p2.symm
        · cases p2
      have ht : np ≤ t := by
        rcases Nat.lt_or_ge t np with q | q
        · have := begins_get hbeg t q
          rw [Nat.zero_add] at this
          exact absurd this (p3 t (by omega))
        · exact q
      have htl : t < fn.ntmps := ltAll_mem hlt t (List.mem_of_getElem? p1)
      refine ⟨undef, ?_, by rw [hv]; exact VRel.undef⟩
      show (cvs ++ Array.replicate (fn.ntmps - cvs.size) undef)[t]? = some undef
      rw [Array.getElem?_append_right (by omega), Array.getElem?_replicate, if_pos (by omega)]
  · have hsz : cvs.size = np := by have := hl.1; simp at this; omega
    show (cvs ++ Array.replicate (fn.ntmps - cvs.size) undef).size = fn.ntmps
    simp; omega
  · obtain ⟨vs2, s1, s2⟩ := r2 w' ρ' a'.tmps st.hr st.tr
    obtain ⟨cv, t1, t2⟩ := run_results s1 s2
    have := hR cv ρ' w' g st.hr t2
    rcases r3 with r3 | r3 <;> subst r3 <;> exact ⟨st.df, cv, t1, this⟩

theorem run_callFunc {f : FuncId} {fn : Func} {c : Code} (hf : P.funcs[f]? = some fn) (hb : fn.body = some c) (hn : (fn.name == "runtime.NumGoroutine") = false) (cvs : Array Value) (w : World) : (callFunc f cvs).run P w = .ok (.enter f cvs) w := by
  have hn : ¬ fn.name = "runtime.NumGoroutine" := by simpa using hn
  simp [callFunc, run_program, hf, hn, hb]

theorem denFn_ok {gl : Fixed} {G : Glob} (hG : GOk gl G) (hT : TabOk P T) (hM : P.follows .mixedOrders = true) {f : FuncId} {fn : Func} {c : Code} {ps : List Nat} {np : Nat} (hf : P.funcs[f]? = some fn) (hb : fn.body = some c) (hn : (fn.name == "runtime.NumGoroutine") = false) :
    FnOk P gl f (denFn T G ps np fn.ntmps fn.results.toList c) := by
  intro rec hrec vs H kv h
  obtain ⟨v, H', h1, h2⟩ := denFn_calls hG hT hM hf hb hrec h
  refine ⟨v, H', h1, fun w ρ cvs hr hd hl o a next Q hn' => ?_⟩
  rw [run_callFunc hf hb hn]
  exact h2 w ρ cvs hr hd hl _ fun cv ρ' w' g hr' hv => hn' cv ρ' w' g hr' hv

end Go.Proofs.YtmgigdklcaepdaaGreatDoor.Ax
end
section
namespace Go.Proofs.YtmgigdklcaepdaaGreatDoor.Ax
set_option linter.unusedVariables false
set_option linter.unusedSimpArgs false

variable {P : Program} {T : Tab}

theorem A0_one {vs : List AVal} {k : Nat} (h : A0 vs k = 1) : vs = [] ∧ k = 1 := by
  cases vs with
  | nil => exact ⟨rfl, h⟩
  | cons v vs => cases h
theorem A1_one {vs : List AVal} {k : AVal → Nat} (h : A1 vs k = 1) : ∃ x, vs = [x] ∧ k x = 1 := by
  cases vs with
  | nil => cases h
  | cons v vs =>
    obtain ⟨rfl, h⟩ := A0_one (show A0 vs (k v) = 1 from h)
    exact ⟨v, rfl, h⟩
theorem A2_one {vs : List AVal} {k : AVal → AVal → Nat} (h : A2 vs k = 1) : ∃ x y, vs = [x, y] ∧ k x y = 1 := by
  cases vs with
  | nil => cases h
  | cons v vs =>
    obtain ⟨y, rfl, h⟩ := A1_one (show A1 vs (k v) = 1 from h)
    exact ⟨v, y, rfl, h⟩
theorem LRel.one {ρ : Ren} {x : AVal} {cvs : Array Value} (h : LRel ρ [x] cvs.toList) : ∃ cx, cvs = #[cx] ∧ VRel ρ x cx := by
  obtain ⟨cx, r, e, h1, h2⟩ := h.uncons
  have := h2.nil_inv
  subst this
  exact ⟨cx, Array.toList_inj.mp e, h1⟩
theorem LRel.two {ρ : Ren} {x y : AVal} {cvs : Array Value} (h : LRel ρ [x, y] cvs.toList) : ∃ cx cy, cvs = #[cx, cy] ∧ VRel ρ x cx ∧ VRel ρ y cy := by
  obtain ⟨cx, r, e, h1, h2⟩ := h.uncons
  obtain ⟨cy, r', e', h3, h4⟩ := h2.uncons
  have := h4.nil_inv
  subst this
  subst e'
  exact ⟨cx, cy, Array.toList_inj.mp e, h1, h3⟩

theorem idxB_one {n : Nat} (code c : Nat) : ∀ (m i : Nat) {k : Int → Nat}, i + m = n → idxB m (code / 256 ^ i) c i k = 1 →
    k (match (List.range' i m).find? fun j => Nat.beq (code / 256 ^ j % 256) c with | some j => (j : Int) | none => -1) = 1
  | 0, i, k, h, hk => hk
  | m + 1, i, k, h, hk => by
    have hk : ifB (Nat.beq (Nat.mod (code / 256 ^ i) 256) c) (force i fun i => k (.ofNat i)) (force (Nat.div (code / 256 ^ i) 256) fun code => idxB m code c (Nat.succ i) k) = 1 := hk
    rw [List.range'_succ, List.find?_cons]
    rcases ifB_one hk with ⟨e, h1⟩ | ⟨e, h1⟩
    · rw [force_eq] at h1
      have e : Nat.beq (code / 256 ^ i % 256) c = true := e
      simp only [e]
      exact h1
    · rw [force_eq] at h1
      have e : Nat.beq (code / 256 ^ i % 256) c = false := e
      simp only [e]
      refine idxB_one (n := n) code c m (i + 1) (by omega) ?_
      have : code / 256 ^ (i + 1) = Nat.div (code / 256 ^ i) 256 := by rw [Nat.pow_succ]; exact (Nat.div_div_eq_div_mul _ _ _).symm
      rw [this]
      exact h1

theorem findCongr {p q : Nat → Bool} : ∀ (l : List Nat), (∀ i ∈ l, p i = q i) → l.find? p = l.find? q
  | [], _ => rfl
  | x :: l, h => by
    rw [List.find?_cons, List.find?_cons, h x List.mem_cons_self, findCongr l fun i hi => h i (List.mem_cons_of_mem _ hi)]
theorem clone_eq (t : TypeId) (r : Nat) : Extern.MapsClone.clone #[.iface t (.map (some r))] = (do
    let .map entries clock ← getObj r | stuck "maps.clone: a map expected"
    pure (.iface t (.map (some (← newObj (.map entries clock)))))) := rfl
theorem indexByte_ok {gl : Fixed} {f : FuncId} {fn : Func} (hf : P.funcs[f]? = some fn) (hname : (fn.name == "runtime.NumGoroutine") = false) (hb : fn.body.isNone = true) (hn : Extern.findNext fn = none) (he : Extern.find fn = some Extern.BytealgIndexByte.indexByte) :
    FnOk P gl f (fun _ vs H k => hIndexByte vs H k) := by
  intro rec hrec vs H kv h
  obtain ⟨x, y, rfl, h1⟩ := A2_one h
  obtain ⟨n, code, rfl, h2⟩ := onStr_one h1
  obtain ⟨j, ci, hy, h3⟩ := onInt_one h2
  obtain ⟨c, rfl, h4⟩ := natI_one h3
  obtain ⟨hj, h5⟩ := ifB_true h4 (by decide)
  have hj := eqK_true hj
  subst hj
  obtain ⟨hc, h6⟩ := ifB_true h5 (by decide)
  have hc := Nat.le_of_ble_eq_true hc
  have h7 := idxB_one (n := n) code c n 0 (by omega) (by simpa using h6)
  rw [mk_eq] at h7
  refine ⟨_, H, h7, fun w ρ cvs hr hd hl o a next Q hn' => ?_⟩
  obtain ⟨cx, cy, rfl, rx, ry⟩ := hl.two
  have ey := int_inv ry hy
  subst ey
  cases rx with
  | str hlt =>
    rw [run_callFunc_extern hf hname hb hn he, run_indexByte_string]
    refine hn' _ ρ w (.refl _ _ _ _) hr ?_
    have e : firstIdx ⟨(bytesOf n code).toArray⟩ (Int.ofNat c).toNat.toUInt8 = (match (List.range' 0 n).find? fun j => Nat.beq (code / 256 ^ j % 256) c with | some j => (j : Int) | none => -1) := by
      unfold firstIdx
      have hsz : (⟨(bytesOf n code).toArray⟩ : ByteArray).size = n := by
        show (bytesOf n code).toArray.size = n
        simp [bytesOf_length]
      rw [hsz, List.range_eq_range']
      have hcongr : (List.range' 0 n).find? (fun i => (⟨(bytesOf n code).toArray⟩ : ByteArray)[i]! == (Int.ofNat c).toNat.toUInt8) = (List.range' 0 n).find? (fun j => Nat.beq (code / 256 ^ j % 256) c) := by
        refine findCongr _ fun i hi => ?_
        have hi : i < n := by simpa using hi
        have hg := bytesOf_get n code i hi
        have e1 : (⟨(bytesOf n code).toArray⟩ : ByteArray)[i]! = UInt8.ofNat (code / 256 ^ i % 256) := by
          rw [getElem!_pos _ i (by rw [hsz]; exact hi)]
          have : (bytesOf n code).toArray[i]? = some (UInt8.ofNat (code / 256 ^ i % 256)) := by simpa using hg
          have h2 := (Array.getElem?_eq_some_iff.mp this).2
          exact h2
        rw [e1]
        have hm : code / 256 ^ i % 256 < 256 := Nat.mod_lt _ (by decide)
        show (UInt8.ofNat (code / 256 ^ i % 256) == UInt8.ofNat c) = _
        rw [Bool.eq_iff_iff, beq_iff_eq, Nat.beq_eq]
        constructor
        · intro h
          have := congrArg UInt8.toNat h
          simp at this
          omega
        · intro h; rw [h]
      rw [hcongr]
      cases (List.range' 0 n).find? (fun j => Nat.beq (code / 256 ^ j % 256) c) <;> rfl
    rw [e]
    exact .mkV _ _

theorem mapsClone_ok {gl : Fixed} {f : FuncId} {fn : Func} (hf : P.funcs[f]? = some fn) (hname : (fn.name == "runtime.NumGoroutine") = false) (hb : fn.body.isNone = true) (hn : Extern.findNext fn = none) (he : Extern.find fn = some Extern.MapsClone.clone) :
    FnOk P gl f (fun _ vs H k => hMapsClone vs H k) := by
  intro rec hrec vs H kv h
  obtain ⟨x, rfl, h1⟩ := A1_one h
  obtain ⟨t, u, rfl, h2⟩ := onIface_one h1
  rcases onMap_one h2 with ⟨b, rfl, h3⟩ | ⟨rfl, h3⟩
  · obtain ⟨ob, hob, h4⟩ := Heap.get_one h3
    obtain ⟨es, c, rfl, h5⟩ := onMapO_one h4
    obtain ⟨H', h6, hnx, hH⟩ := Heap.new_one h5
    refine ⟨_, H', h6, fun w ρ cvs hr hd hl o a next Q hn' => ?_⟩
    obtain ⟨cx, rfl, rx⟩ := hl.one
    cases rx with
    | iface rv =>
      cases rv with
      | map hρ =>
        rename_i L
        obtain ⟨ces, hheap, hlen, hent⟩ := hr.obj b L _ hρ hob
        have hrun : (Extern.MapsClone.clone #[.iface t (.map (some L.c))]).run P w = .ok (.iface t (.map (some w.heap.size))) { w with heap := w.heap.push (.map ces c) } := by
          simp only [clone_eq, Sem.run_bind, run_getMap hheap, Result.andThen_ok, run_newObj, Sem.run_pure]
        have hpush : Push (.map ces c) w { w with heap := w.heap.push (.map ces c) } := ⟨rfl, rfl, rfl, rfl⟩
        have hb0 := hd _ (Nat.le_refl _)
        obtain ⟨q1, q2⟩ := hr.new (tot := 0) hb0 hpush hH ⟨ces, by simp, hlen, fun i e c he hc => let ⟨a, b, d⟩ := hent i e c he hc; ⟨a.mono (Ren.le_set _ hb0), b.mono (Ren.le_set _ hb0), d⟩⟩
        rw [run_callFunc_extern hf hname hb hn he, hrun]
        exact hn' _ _ _ (by rw [hnx]; exact q2) q1 (.iface (.map (L := ⟨w.heap.size, 0, 0⟩) (Ren.set_at _ _ _)))
  · cases h3

end Go.Proofs.YtmgigdklcaepdaaGreatDoor.Ax
end

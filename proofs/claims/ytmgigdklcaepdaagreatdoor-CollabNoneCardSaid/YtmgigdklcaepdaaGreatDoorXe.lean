/-
  Slices, lengths, composite values. · Equality of scalars, of flat structs, of interface values with nil; composite values.
-/
import Derived.Test.YtmgigdklcaepdaaGreatDoorXd
import Derived.Laws.StructEq
import Derived.WideLaws
set_option linter.unusedVariables false
set_option linter.unusedSimpArgs false
section
namespace Go.Proofs.YtmgigdklcaepdaaGreatDoor.Ax
set_option linter.unusedVariables false
set_option linter.unusedSimpArgs false

variable {P : Program}

/-- An optional bound, in the model. -/
def ORel (ρ : Ren) : Option AVal → Option Value → Prop
  | none, none => True
  | some v, some cv => VRel ρ v cv
  | _, _ => False

theorem bnd_one {v : Option AVal} {d : Nat} {k : Nat → Nat} (h : bnd v d k = 1) : (v = none ∧ k d = 1) ∨ ∃ x j m, v = some x ∧ AVal.int? x = some (j, Int.ofNat m) ∧ k m = 1 := by
  cases v with
  | none => exact .inl ⟨rfl, h⟩
  | some x =>
    have h0 : onInt x (fun _ n => natI n k) = 1 := h
    obtain ⟨j, n, hx, h1⟩ := onInt_one h0
    obtain ⟨m, rfl, h2⟩ := natI_one h1
    exact .inr ⟨x, j, m, rfl, hx, h2⟩
/-- A bound's number. -/
def BRel (ρ : Ren) (v : Option AVal) (d m : Nat) : Prop := ∀ cv, ORel ρ v cv → (cv = none ∧ m = d) ∨ ∃ j, cv = some (.int j (m : Int))
theorem bnd_ok {v : Option AVal} {d : Nat} {k : Nat → Nat} (h : bnd v d k = 1) : ∃ m, k m = 1 ∧ ∀ ρ, BRel ρ v d m := by
  rcases bnd_one h with ⟨rfl, h_1⟩ | ⟨x, j, m, rfl, hx, h_1⟩
  · exact ⟨d, h_1, fun ρ cv hc => .inl ⟨by cases cv <;> simp_all [ORel], rfl⟩⟩
  · refine ⟨m, h_1, fun ρ cv hc => ?_⟩
    cases cv with
    | none => simp [ORel] at hc
    | some cv => exact .inr ⟨j, by rw [int_inv hc hx]; rfl⟩
theorem run_bound {w : World} {j : IntKind} {m y : Nat} {code : BoundsCode} (h : m ≤ y) : (Instr.sliceBound (.int j (m : Int)) y code).run P w = .ok m w := by
  simp [Instr.sliceBound, Sem.run_bind, asIntOf]
  intro hx; omega

theorem run_bounds {w : World} {b : Bool} {ρ : Ren} {len cap l h : Nat} {lo hi : Option AVal} {clo chi : Option Value} (rl : ORel ρ lo clo) (rh : ORel ρ hi chi)
    (bl : BRel ρ lo 0 l) (bh : BRel ρ hi len h) (hl : l ≤ h) (hh : h ≤ cap) : (Instr.sliceBounds b len cap clo chi none).run P w = .ok (l, h, cap) w := by
  rcases bl _ rl with ⟨rfl, rfl⟩ | ⟨j, rfl⟩ <;> rcases bh _ rh with ⟨rfl, rfl⟩ | ⟨j', rfl⟩ <;> simp [Instr.sliceBounds, Sem.run_bind, run_bound, hl, hh]
theorem run_bounds3 {w : World} {ρ : Ren} {len cap l h m : Nat} {j : IntKind} {lo hi : Option AVal} {clo chi : Option Value} (rl : ORel ρ lo clo) (rh : ORel ρ hi chi)
    (bl : BRel ρ lo 0 l) (bh : BRel ρ hi len h) (hl : l ≤ h) (hh : h ≤ m) (hm : m ≤ cap) (hs : hi.isSome = true) : (Instr.sliceBounds true len cap clo chi (some (.int j (m : Int)))).run P w = .ok (l, h, m) w := by
  rcases bh _ rh with ⟨rfl, rfl⟩ | ⟨j', rfl⟩
  · cases hi <;> simp_all [ORel]
  · rcases bl _ rl with ⟨rfl, rfl⟩ | ⟨j, rfl⟩ <;> simp [Instr.sliceBounds, Sem.run_bind, run_bound, hl, hh, hm]

/-- What is cut out of a slice of elements of esz cells. -/
theorem cutSl_one {b o esz : Nat} {cap : ACap} {l h : Nat} {kv : KP} (hk : cutSl b o esz cap l h kv = 1) :
    l ≤ h ∧ h ≤ cap.low ∧ kv (.sl b (o + l * esz) (h - l) esz (ACap.rec (fun m => .ex (m - l)) (fun m => .ge (m - l)) cap)) = 1 := by
  obtain ⟨h1, hk⟩ := ifB_true hk (by decide)
  obtain ⟨h2, hk⟩ := ifB_true hk (by decide)
  rw [force_eq, force_eq, subC_eq] at hk
  exact ⟨Nat.le_of_ble_eq_true h1, Nat.le_of_ble_eq_true h2, hk⟩
theorem cut_rel {ρ : Ren} {b o esz : Nat} {cap : ACap} {l h cc : Nat} {L : Loc} (hb : ρ b = some L) (hc : capOk cap cc) (hl : l ≤ h) (hh : h ≤ cap.low) (ht : L.d + o + cc * esz ≤ L.tot) :
    VRel ρ (.sl b (o + l * esz) (h - l) esz (ACap.rec (fun m => .ex (m - l)) (fun m => .ge (m - l)) cap)) (.slice (some (if cc = l then ⟨L.c, L.d + o, none⟩ else Addr.add ⟨L.c, L.d + o, none⟩ (l * esz))) (h - l) (cc - l)) := by
  have h3 := capOk_low hc
  by_cases he : cc = l
  · have e1 : h - l = 0 := by omega
    have e2 : cc - l = 0 := by omega
    rw [if_pos he, e1, e2]
    have := capOk_sub (n := l) hc
    rw [e2] at this
    exact .slE hb this (by rw [← he]; omega)
  · rw [if_neg he, addr_add]
    refine .sl hb (capOk_sub hc) (by omega) (by omega) ?_
    have : (cc - l) * esz + l * esz = cc * esz := by rw [← Nat.add_mul]; congr 1; omega
    omega

/-- 'slice' of a slice. -/
def GivesSl (P : Program) (t : TypeId) (x : AVal) (lo hi : Option AVal) (mx : Option AVal) (v : AVal) : Prop :=
  ∀ w ρ cx clo chi cmx, VRel ρ x cx → ORel ρ lo clo → ORel ρ hi chi → ORel ρ mx cmx → ∃ cv, (Instr.sliceAt t cx clo chi cmx).run P w = .ok cv w ∧ VRel ρ v cv

theorem pSlice_ok {sz : Nat} {lo hi : Option AVal} {x : AVal} {kv : KP} (h : pSlice sz lo hi x kv = 1) {t e : TypeId} {i : TypeInfo} (ht : P.underlying t = some (.slice e)) (hi' : P.info? e = some i) (hz : i.size = sz) :
    ∃ v, kv v = 1 ∧ GivesSl P t x lo hi none v := by
  rcases onSl_one h with ⟨b, o, n, es, c, rfl, h_1⟩ | ⟨rfl, h_1⟩
  · obtain ⟨he, h_2⟩ := ifB_true h_1 (by decide)
    have he := Nat.eq_of_beq_eq_true he
    subst he
    obtain ⟨m, h_3, bh⟩ := bnd_ok h_2
    obtain ⟨l, h_4, bl⟩ := bnd_ok h_3
    obtain ⟨h1, h2, h_5⟩ := cutSl_one h_4
    refine ⟨_, h_5, fun w ρ cx clo chi cmx rx rl rh rm => ?_⟩
    cases cmx with
    | some _ => simp [ORel] at rm
    | none =>
      cases rx with
      | sl hb hc hl h0 ht' =>
        refine ⟨_, ?_, cut_rel hb hc h1 h2 ht'⟩
        have := capOk_low hc
        simp only [Instr.sliceAt, Instr.slice, Sem.run_bind, run_und ht, Result.andThen_ok, run_bounds rl rh (bl ρ) (bh ρ) h1 (Nat.le_trans h2 this), run_size hi', hz, Sem.run_pure]
        simp only [Option.map_some]
        split <;> rfl
      | @slE _ _ _ _ a L hb hc ht' =>
        have h3 := capOk_low hc
        have e1 : l = 0 := by omega
        have e2 : m = 0 := by omega
        subst e1 e2
        refine ⟨.slice (some a) 0 0, ?_, .slE (b := b) (o := o + 0 * es) (esz := es) hb (capOk_sub (n := 0) hc) (by omega)⟩
        · simp only [Instr.sliceAt, Instr.slice, Sem.run_bind, run_und ht, Result.andThen_ok, run_bounds rl rh (bl ρ) (bh ρ) h1 (Nat.zero_le _), run_size hi', hz, Sem.run_pure]
          rfl
  · obtain ⟨m, h_6, bh⟩ := bnd_ok h_1
    obtain ⟨l, h_7, bl⟩ := bnd_ok h_6
    obtain ⟨h1, h_8⟩ := ifB_true h_7 (by decide)
    obtain ⟨h1, h2⟩ := andB_true h1
    have h1 := Nat.eq_of_beq_eq_true h1
    have h2 := Nat.eq_of_beq_eq_true h2
    subst h1 h2
    refine ⟨_, h_8, fun w ρ cx clo chi cmx rx rl rh rm => ?_⟩
    cases cmx with
    | some _ => simp [ORel] at rm
    | none =>
      cases rx
      refine ⟨_, ?_, .sl0⟩
      simp only [Instr.sliceAt, Instr.slice, Sem.run_bind, run_und ht, Result.andThen_ok, run_bounds rl rh (bl ρ) (bh ρ) (Nat.le_refl 0) (Nat.zero_le _), run_size hi', hz, Sem.run_pure]
      rfl

theorem pSlice3_ok {sz : Nat} {lo hi : Option AVal} {mx x : AVal} {kv : KP} (h : pSlice3 sz lo hi mx x kv = 1) (hs : hi.isSome = true) {t e : TypeId} {i : TypeInfo} (ht : P.underlying t = some (.slice e)) (hi' : P.info? e = some i) (hz : i.size = sz) :
    ∃ v, kv v = 1 ∧ GivesSl P t x lo hi (some mx) v := by
  obtain ⟨j, q, hm, h_1⟩ := onInt_one h
  obtain ⟨q, rfl, h_2⟩ := natI_one h_1
  rcases onSl_one h_2 with ⟨b, o, n, es, c, rfl, h_3⟩ | ⟨rfl, h_3⟩
  · obtain ⟨he, h_4⟩ := ifB_true h_3 (by decide)
    obtain ⟨he, hq⟩ := andB_true he
    have he := Nat.eq_of_beq_eq_true he
    have hq := Nat.le_of_ble_eq_true hq
    subst he
    obtain ⟨m, h_5, bh⟩ := bnd_ok h_4
    obtain ⟨l, h_6, bl⟩ := bnd_ok h_5
    obtain ⟨h1, h2, h_7⟩ := cutSl_one h_6
    have h2 : m ≤ q := h2
    refine ⟨_, h_7, fun w ρ cx clo chi cmx rx rl rh rm => ?_⟩
    cases cmx with
    | none => simp [ORel] at rm
    | some cm =>
      have rm : cm = .int j (q : Int) := int_inv rm hm
      subst rm
      cases rx with
      | sl hb hc hl h0 ht' =>
        have h3 := capOk_low hc
        have h4 : q * es ≤ _ * es := Nat.mul_le_mul_right es (Nat.le_trans hq h3)
        refine ⟨_, ?_, cut_rel hb (cap := .ex q) (cc := q) rfl h1 h2 (by omega)⟩
        simp only [Instr.sliceAt, Instr.slice, Sem.run_bind, run_und ht, Result.andThen_ok, run_bounds3 rl rh (bl ρ) (bh ρ) h1 h2 (Nat.le_trans hq h3) hs, run_size hi', hz, Sem.run_pure]
        simp only [Option.map_some]
        split <;> rfl
      | @slE _ _ _ _ a L hb hc ht' =>
        have h3 := capOk_low hc
        have e0 : q = 0 := by omega
        subst e0
        have e1 : l = 0 := by omega
        have e2 : m = 0 := by omega
        subst e1 e2
        refine ⟨.slice (some a) 0 0, ?_, .slE (b := b) (o := o + 0 * es) (esz := es) hb (capOk_sub (n := 0) (cap := .ex 0) rfl) (by omega)⟩
        · simp only [Instr.sliceAt, Instr.slice, Sem.run_bind, run_und ht, Result.andThen_ok, run_bounds3 rl rh (bl ρ) (bh ρ) h1 h2 (Nat.zero_le _) hs, run_size hi', hz, Sem.run_pure]
          rfl
  · obtain ⟨m, h_8, bh⟩ := bnd_ok h_3
    obtain ⟨l, h_9, bl⟩ := bnd_ok h_8
    obtain ⟨h1, h_10⟩ := ifB_true h_9 (by decide)
    obtain ⟨g0, g1⟩ := andB_true h1
    obtain ⟨g2, g3⟩ := andB_true g1
    have e0 := Nat.eq_of_beq_eq_true g0
    have e1 := Nat.eq_of_beq_eq_true g2
    have e2 := Nat.eq_of_beq_eq_true g3
    subst e0 e1 e2
    refine ⟨_, h_10, fun w ρ cx clo chi cmx rx rl rh rm => ?_⟩
    cases cmx with
    | none => simp [ORel] at rm
    | some cm =>
      have rm : cm = .int j ((0 : Nat) : Int) := int_inv rm hm
      subst rm
      cases rx
      refine ⟨_, ?_, .sl0⟩
      simp only [Instr.sliceAt, Instr.slice, Sem.run_bind, run_und ht, Result.andThen_ok, run_bounds3 rl rh (bl ρ) (bh ρ) (Nat.le_refl 0) (Nat.le_refl 0) (Nat.zero_le _) hs, run_size hi', hz, Sem.run_pure]
      rfl

theorem pSliceS_ok {lo hi : Option AVal} {x : AVal} {kv : KP} (h : pSliceS lo hi x kv = 1) {t : TypeId} (ht : P.underlying t = some .string) : ∃ v, kv v = 1 ∧ GivesSl P t x lo hi none v := by
  obtain ⟨n, a, rfl, h_1⟩ := onStr_one h
  obtain ⟨m, h_2, bh⟩ := bnd_ok h_1
  obtain ⟨l, h_3, bl⟩ := bnd_ok h_2
  obtain ⟨h1, h_4⟩ := ifB_true h_3 (by decide)
  obtain ⟨h2, h_5⟩ := ifB_true h_4 (by decide)
  rw [force_eq, force_eq] at h_5
  have h1 := Nat.le_of_ble_eq_true h1
  have h2 := Nat.le_of_ble_eq_true h2
  refine ⟨_, h_5, fun w ρ cx clo chi cmx rx rl rh rm => ?_⟩
  cases cmx with
  | some _ => simp [ORel] at rm
  | none =>
    obtain ⟨rfl, ha⟩ := str_inv rx
    refine ⟨.string (txt (m - l) (cutN a l (m - l))), ?_, .str (cutN_lt _ _ _)⟩
    simp only [Instr.sliceAt, Instr.slice, Sem.run_bind, run_und ht, Result.andThen_ok, txt_size]
    simp [Sem.run_bind, run_bounds rl rh (bl ρ) (bh ρ) h1 h2]
    unfold txt
    rw [← bytesOf_cut n a l (m - l) (by omega)]
    apply ByteArray.ext
    apply Array.ext'
    simp [List.extract_eq_take_drop]

theorem pSliceA_ok {n sz : Nat} {lo hi : Option AVal} {x : AVal} {kv : KP} (h : pSliceA n sz lo hi x kv = 1) {t e : TypeId} {i : TypeInfo} (ht : P.underlying t = some (.array n e)) (hi' : P.info? e = some i) (hz : i.size = sz) :
    ∃ v, kv v = 1 ∧ ∀ w ρ cx clo chi, VRel ρ x cx → (∀ b o L, x = .p b o → ρ b = some L → L.d + o + n * sz ≤ L.tot) → ORel ρ lo clo → ORel ρ hi chi → ∃ cv, (Instr.sliceAt t cx clo chi none).run P w = .ok cv w ∧ VRel ρ v cv := by
  rcases onPtr_one h with ⟨b, o, rfl, h_1⟩ | ⟨g, o, rfl, h_1⟩
  · obtain ⟨m, h_2, bh⟩ := bnd_ok h_1
    obtain ⟨l, h_3, bl⟩ := bnd_ok h_2
    obtain ⟨h1, h2, h_4⟩ := cutSl_one h_3
    have h2 : m ≤ n := h2
    refine ⟨_, h_4, fun w ρ cx clo chi rx hlen rl rh => ?_⟩
    cases rx with
    | p hb =>
      refine ⟨_, ?_, cut_rel hb (cap := .ex n) (cc := n) rfl h1 h2 (hlen b o _ rfl hb)⟩
      simp only [Instr.sliceAt, Sem.run_bind, run_und ht, Result.andThen_ok, Instr.sureAddr, Sem.run_pure, run_bounds rl rh (bl ρ) (bh ρ) h1 h2, run_size hi', hz]
  · cases h_1

theorem pLenSl_ok {x : AVal} {kv : KP} (h : pLenSl x kv = 1) {t e : TypeId} (ht : P.underlying t = some (.slice e)) (ty : TypeId) (ts : Array TypeId) (hts : ts[0]? = some t) :
    ∃ v, kv v = 1 ∧ GivesP1 P (fun x => Builtin.len_ ts ty #[x]) x v := by
  rcases onSl_one h with ⟨b, o, n, es, c, rfl, h_1⟩ | ⟨rfl, h_1⟩
  · refine ⟨_, h_1, fun w ρ cx rx => ?_⟩
    cases rx <;> refine ⟨_, ?_, .n _⟩ <;> simp [Builtin.len_, Sem.run_bind, run_und ht, goInt, hts]
  · refine ⟨_, h_1, fun w ρ cx rx => ?_⟩
    cases rx; refine ⟨_, ?_, .n _⟩; simp [Builtin.len_, Sem.run_bind, run_und ht, goInt, hts]
theorem pLenS_ok {x : AVal} {kv : KP} (h : pLenS x kv = 1) {t : TypeId} (ht : P.underlying t = some .string) (ty : TypeId) (ts : Array TypeId) (hts : ts[0]? = some t) :
    ∃ v, kv v = 1 ∧ GivesP1 P (fun x => Builtin.len_ ts ty #[x]) x v := by
  obtain ⟨n, a, rfl, h_1⟩ := onStr_one h
  refine ⟨_, h_1, fun w ρ cx rx => ?_⟩
  obtain ⟨rfl, ha⟩ := str_inv rx
  refine ⟨_, ?_, .n _⟩
  simp [Builtin.len_, Sem.run_bind, run_und ht, goInt, txt_size, hts]
theorem pCap_ok {x : AVal} {kv : KP} (h : pCap x kv = 1) {t e : TypeId} (ht : P.underlying t = some (.slice e)) (ty : TypeId) (ts : Array TypeId) (hts : ts[0]? = some t) :
    ∃ v, kv v = 1 ∧ GivesP1 P (fun x => Builtin.cap_ ts ty #[x]) x v := by
  rcases onSl_one h with ⟨b, o, n, es, c, rfl, h_1⟩ | ⟨rfl, h_1⟩
  · cases c with
    | ge n => cases h_1
    | ex m =>
      refine ⟨_, h_1, fun w ρ cx rx => ?_⟩
      cases rx with
      | sl hb hc hl h0 ht' => simp only [capOk] at hc; subst hc; refine ⟨_, ?_, .n _⟩; simp [Builtin.cap_, Sem.run_bind, run_und ht, goInt, hts]
      | slE _ hc _ => simp only [capOk] at hc; subst hc; refine ⟨_, ?_, .n _⟩; simp [Builtin.cap_, Sem.run_bind, run_und ht, goInt, hts]
  · refine ⟨_, h_1, fun w ρ cx rx => ?_⟩
    cases rx; refine ⟨_, ?_, .n _⟩; simp [Builtin.cap_, Sem.run_bind, run_und ht, goInt, hts]

/-! composite values -/
def partsOver : List AVal → List (Nat × Nat) → List AVal → Option (List AVal)
  | z, [], [] => some z
  | z, (off, sz) :: ps, v :: vs => if (cellsV v).length = sz ∧ off ≤ z.length ∧ off + (cellsV v).length ≤ z.length then partsOver (over z (cellsV v) off) ps vs else none
  | _, _, _ => none
theorem pParts_one {ps : List (Nat × Nat)} : ∀ {z : List AVal} {vs : List AVal} {k : List AVal → Nat}, pParts z ps vs k = 1 → (∀ p ∈ ps, p.1 ≤ z.length) → ∃ cs, partsOver z ps vs = some cs ∧ (∀ v ∈ vs, ∀ c, v ≠ .z (.tuple c)) ∧ k cs = 1 := by
  induction ps with
  | nil =>
    intro z vs k h hp
    cases vs with
    | nil => exact ⟨z, rfl, (fun v hv => by cases hv), h⟩
    | cons v vs => cases h
  | cons p ps ih =>
    intro z vs k h hp
    cases vs with
    | nil => cases h
    | cons v vs =>
      obtain ⟨off, sz⟩ := p
      have h : cellsOf v (fun cs => ifB (Nat.beq (len' cs) sz) (overL z cs off fun z => pParts z ps vs k) 380) = 1 := h
      obtain ⟨h_1, hnt⟩ := cellsOf_one h
      obtain ⟨h1, h_2⟩ := ifB_true h_1 (by decide)
      have h1 := Nat.eq_of_beq_eq_true h1
      rw [len'_eq] at h1
      have h0 := hp _ List.mem_cons_self
      obtain ⟨h2, h_3⟩ := overL_one h0 h_2
      obtain ⟨cs, h3, h4, h_4⟩ := ih h_3 (fun q hq => by rw [over_length _ _ _ h2]; exact hp q (List.mem_cons_of_mem _ hq))
      refine ⟨cs, ?_, (fun v' hv' => by rcases List.mem_cons.mp hv' with e | e; exact e ▸ hnt; exact h4 _ e), h_4⟩
      unfold partsOver
      rw [if_pos ⟨h1, h0, h2⟩]
      exact h3

theorem foldl_over (new : List Value) : ∀ (k : Nat) (cs : Array Value) (off : Nat), off + (k + new.length) ≤ cs.size →
    ((new.zipIdx k).foldl (fun cs (c, j) => cs.setIfInBounds (off + j) c) cs).toList = over cs.toList new (off + k) := by
  induction new with
  | nil => intro k cs off h; simp [over]
  | cons x new ih =>
    intro k cs off h
    simp only [List.zipIdx_cons, List.foldl_cons]
    rw [ih (k + 1) _ off (by simp at h ⊢; omega)]
    apply List.ext_getElem?
    intro i
    rw [over_get _ _ _ _ (by simp at h ⊢; omega), over_get _ _ _ _ (by simp at h ⊢; omega)]
    simp only [List.length_cons, Array.toList_setIfInBounds, List.getElem?_set]
    by_cases h1 : i = off + k
    · subst h1
      rw [if_neg (by omega), if_pos rfl, if_pos (by simp at h ⊢; omega), if_pos (by omega)]
      simp
    · by_cases h2 : off + (k + 1) ≤ i ∧ i < off + (k + 1) + new.length
      · rw [if_pos h2, if_pos (by omega)]
        rw [show i - (off + k) = (i - (off + (k + 1))) + 1 by omega]
        simp
      · rw [if_neg h2, if_neg (by omega), if_neg (by omega)]

theorem fill_one {ρ : Ren} {place : Nat → Option (Nat × Nat)} : ∀ {ps : List (Nat × Nat)} {z cs : List AVal} {vs : List AVal} {cz : Array Value} {cps : List (Nat × Value)}, partsOver z ps vs = some cs → LRel ρ z cz.toList →
    LRel ρ vs (cps.map (·.2)) → ps.map some = cps.map (fun p => place p.1) → One cz.toList → (∀ v ∈ vs, ∀ c, v ≠ .z (.tuple c)) → ∃ ca, Instr.fill place cz cps = some ca ∧ LRel ρ cs ca.toList ∧ One ca.toList := by
  intro ps
  induction ps with
  | nil =>
    intro z cs vs cz cps h hz hv hp ho hnt
    cases cps with
    | cons _ _ => simp at hp
    | nil =>
      cases vs with
      | cons _ _ => have := hv.1; simp at this
      | nil =>
        simp only [partsOver, Option.some.injEq] at h
        exact ⟨cz, rfl, h ▸ hz, ho⟩
  | cons p ps ih =>
    intro z cs vs cz cps h hz hv hp ho hnt
    cases cps with
    | nil => simp at hp
    | cons c cps =>
      cases vs with
      | nil => have := hv.1; simp at this
      | cons v vs =>
        obtain ⟨off, sz⟩ := p
        obtain ⟨ci, cv⟩ := c
        simp only [List.map_cons, List.cons.injEq] at hp
        obtain ⟨_, _, e, hv0, hv⟩ := hv.uncons
        simp only [List.map_cons, List.cons.injEq] at e
        obtain ⟨e1, e2⟩ := e
        subst e1 e2
        unfold partsOver at h
        split at h
        · rename_i hc
          obtain ⟨h1, h2, h3⟩ := hc
          obtain ⟨hr, hr1⟩ := cells_rel hv0 (hnt v List.mem_cons_self)
          have hl : (cellsV v).length = cv.cells.size := by have := hr.1; simpa using this
          have hzl : z.length = cz.size := by have := hz.1; simpa using this
          simp only [Instr.fill, ← hp.1]
          rw [if_neg (by rw [Bool.not_eq_true, Bool.or_eq_false_iff]; constructor <;> simp <;> omega)]
          have e : (cv.cells.zipIdx.foldl (fun cs (c, j) => cs.setIfInBounds (off + j) c) cz).toList = over cz.toList cv.cells.toList off := by
            rw [← Array.foldl_toList]
            have := foldl_over cv.cells.toList 0 cz off (by simp; omega)
            simp only [Array.toList_zipIdx]
            exact this
          refine ih h ?_ hv hp.2 ?_ (fun v' hv' => hnt v' (List.mem_cons_of_mem _ hv'))
          · rw [e]
            exact hz.over off hr
          · rw [e]
            intro y hy
            unfold Ax.over at hy
            rcases List.mem_append.mp hy with hy | hy
            · rcases List.mem_append.mp hy with hy | hy
              · exact ho y (List.mem_of_mem_take hy)
              · exact hr1 y hy
            · exact ho y (List.mem_of_mem_drop hy)
        · cases h

theorem pMakeIface_ok {t : TypeId} {x : AVal} {kv : KP} (h : pMakeIface t x kv = 1) {d : TypeDesc} (ht : P.underlying t = some d) (hd : (match d with | .interface _ => true | _ => false) = false) :
    ∃ v, kv v = 1 ∧ GivesP1 P (Instr.makeInterface t) x v := by
  refine ⟨_, h, fun w ρ cx rx => ⟨.iface t cx, ?_, .iface rx⟩⟩
  cases d <;> simp_all [Instr.makeInterface, Sem.run_bind, run_und ht]
theorem pAssert_ok {t : TypeId} {x : AVal} {kv : KP} (h : pAssert t x kv = 1) (xt : TypeId) {d : TypeDesc} (ht : P.underlying t = some d) (hd : (match d with | .interface _ => true | _ => false) = false) :
    ∃ v, kv v = 1 ∧ GivesP1 P (fun x => Instr.typeAssert x xt t false) x v := by
  obtain ⟨u, y, rfl, h_1⟩ := onIface_one h
  obtain ⟨h1, h_2⟩ := ifB_true h_1 (by decide)
  have h1 := Nat.eq_of_beq_eq_true h1
  subst h1
  refine ⟨_, h_2, fun w ρ cx rx => ?_⟩
  cases rx with
  | iface hy =>
    refine ⟨_, ?_, hy⟩
    cases d <;> simp_all [Instr.typeAssert, Sem.run_bind, run_und ht]
theorem pFunc_ok {f nf : Nat} {vs : List AVal} {kv : KP} (h : pFunc f nf vs kv = 1) : ∃ v, kv v = 1 ∧ ∀ w ρ (ca cc : Array Value), LRel ρ vs (ca.toList ++ cc.toList) → ca.size = nf → ∃ cv, (Instr.makeFunc (.func f) ca cc).run P w = .ok cv w ∧ VRel ρ v cv := by
  obtain ⟨hle, h_1⟩ := takeL_one h
  rw [dropL_eq] at h_1
  refine ⟨_, h_1, fun w ρ ca cc hl hn => ⟨_, rfl, ?_⟩⟩
  have e1 : (ca.toList ++ cc.toList).take nf = ca.toList := by rw [← hn]; simp
  have e2 : (ca.toList ++ cc.toList).drop nf = cc.toList := by rw [← hn]; simp
  have l1 := hl.take nf
  have l2 := hl.drop nf
  rw [e1] at l1
  rw [e2] at l2
  exact .func (by simpa using l1.1) (fun i x y hx hy => l1.2 i x y hx (by simpa using hy)) (by simpa using l2.1) (fun i x y hx hy => l2.2 i x y hx (by simpa using hy))

end Go.Proofs.YtmgigdklcaepdaaGreatDoor.Ax
end
section
namespace Go.Proofs.YtmgigdklcaepdaaGreatDoor.Ax
set_option linter.unusedVariables false
set_option linter.unusedSimpArgs false

variable {P : Program}

def scEq : Value → Value → Option Bool
  | .int k a, .int j b => if k = j then some (a == b) else none
  | .bool a, .bool b => some (a == b)
  | .string a, .string b => some (a.toList == b.toList)
  | _, _ => none
/-- Two values of which it is known whether they are the same. -/
def ScR (x y : AVal) (r : Bool) : Prop := ∀ ρ cx cy, VRel ρ x cx → VRel ρ y cy → scEq cx cy = some r

theorem eqC_int {x y : AVal} {k : IntKind} {a : Int} (hx : AVal.int? x = some (k, a)) {kk : Bool → Nat} (h : onInt y (fun j b => ifB (eqK k j) (kk (eqI a b)) 359) = 1) : ∃ r, kk r = 1 ∧ ScR x y r := by
  obtain ⟨j, b, hy, h_1⟩ := onInt_one h
  obtain ⟨e, h_2⟩ := ifB_true h_1 (by decide)
  have e := eqK_true e
  subst e
  refine ⟨_, h_2, fun ρ cx cy rx ry => ?_⟩
  rw [int_inv rx hx, int_inv ry hy, eqI_eq]
  simp [scEq]
theorem eqC_one {x y : AVal} {k : Bool → Nat} (h : eqC x y k = 1) : ∃ r, k r = 1 ∧ ScR x y r := by
  cases x with
  | n m => exact eqC_int (x := .n m) rfl h
  | tt =>
    rcases onBool_one (v := y) h with ⟨rfl, h_1⟩ | ⟨rfl, h_1⟩
    · exact ⟨_, h_1, fun ρ cx cy rx ry => by rw [bool_inv_t rx, bool_inv_t ry]; rfl⟩
    · exact ⟨_, h_1, fun ρ cx cy rx ry => by rw [bool_inv_t rx, bool_inv_f ry]; rfl⟩
  | ff =>
    rcases onBool_one (v := y) h with ⟨rfl, h_2⟩ | ⟨rfl, h_2⟩
    · exact ⟨_, h_2, fun ρ cx cy rx ry => by rw [bool_inv_f rx, bool_inv_t ry]; rfl⟩
    · exact ⟨_, h_2, fun ρ cx cy rx ry => by rw [bool_inv_f rx, bool_inv_f ry]; rfl⟩
  | str n a =>
    obtain ⟨m, b, rfl, h_3⟩ := onStr_one (v := y) h
    refine ⟨_, h_3, fun ρ cx cy rx ry => ?_⟩
    obtain ⟨rfl, ha⟩ := str_inv rx
    obtain ⟨rfl, hb⟩ := str_inv ry
    rw [eqS_eq ha hb]
    simp [scEq, txt_toList']
  | z o => cases o with
    | int j a => exact eqC_int (x := .z (.int j a)) rfl h
    | _ => cases h
  | _ => cases h

theorem scEq_eql {t : TypeId} (ht : P.underlying t = some .bool) {cx cy : Value} {r : Bool} (h : scEq cx cy = some r) (w : World) : (binOp .eql t cx cy).run P w = .ok (.bool r) w ∧ (binOp .neq t cx cy).run P w = .ok (.bool (!r)) w := by
  cases cx <;> cases cy <;> simp [scEq] at h
  · subst h
    constructor <;> simp [binOp, Sem.run_bind, Op.equal, Op.maxDepth, run_equalIn_bool' w 9999 t _ _ ht]
  · obtain ⟨rfl, rfl⟩ := h
    constructor <;> simp [binOp, Op.intCmp] <;> rfl
  · subst h
    constructor <;> simp [binOp, Op.stringOp]

theorem pEqC_ok {x y : AVal} {kv : KP} (h : pEqC x y kv = 1) {t : TypeId} (ht : P.underlying t = some .bool) : ∃ v, kv v = 1 ∧ GivesP2 P (binOp .eql t) x y v := by
  obtain ⟨r, h_1, hr⟩ := eqC_one h
  rw [kb_eq] at h_1
  exact ⟨_, h_1, fun w ρ cx cy rx ry => ⟨_, (scEq_eql ht (hr ρ cx cy rx ry) w).1, .bool _⟩⟩
theorem pNeC_ok {x y : AVal} {kv : KP} (h : pNeC x y kv = 1) {t : TypeId} (ht : P.underlying t = some .bool) : ∃ v, kv v = 1 ∧ GivesP2 P (binOp .neq t) x y v := by
  obtain ⟨r, h_1, hr⟩ := eqC_one h
  rw [nkb_eq] at h_1
  exact ⟨_, h_1, fun w ρ cx cy rx ry => ⟨_, (scEq_eql ht (hr ρ cx cy rx ry) w).2, .bool _⟩⟩

def scEqL : List Value → List Value → Option Bool
  | [], [] => some true
  | x :: xs, y :: ys => match scEq x y with | some true => scEqL xs ys | r => r
  | _, _ => none
def kindOf : TypeDesc → Option Nat
  | .int _ => some 0
  | .bool => some 1
  | .string => some 2
  | _ => none
def kindV : Value → Option Nat
  | .int _ _ => some 0
  | .bool _ => some 1
  | .string _ => some 2
  | _ => none
theorem eqCk_one {t : Nat} {x y : AVal} {k : Bool → Nat} (h : eqCk t x y k = 1) : ∃ r, k r = 1 ∧ ScR x y r ∧ (t < 3 → ∀ ρ cx, VRel ρ x cx → kindV cx = some t) := by
  rcases t with _ | _ | t
  · have h0 : onInt x (fun i a => onInt y fun j b => ifB (eqK i j) (k (eqI a b)) 364) = 1 := h
    obtain ⟨i, a, hx, h1⟩ := onInt_one h0
    obtain ⟨j, b, hy, h2⟩ := onInt_one h1
    obtain ⟨e, h3⟩ := ifB_true h2 (by decide)
    have e := eqK_true e
    subst e
    refine ⟨_, h3, fun ρ cx cy rx ry => ?_, fun _ ρ cx rx => by rw [int_inv rx hx]; rfl⟩
    rw [int_inv rx hx, int_inv ry hy, eqI_eq]
    simp [scEq]
  · have h0 : onBool x (onBool y (k true) (k false)) (onBool y (k false) (k true)) = 1 := h
    rcases onBool_one h0 with ⟨rfl, h1⟩ | ⟨rfl, h1⟩ <;> rcases onBool_one h1 with ⟨rfl, h2⟩ | ⟨rfl, h2⟩
    · exact ⟨_, h2, fun ρ cx cy rx ry => by rw [bool_inv_t rx, bool_inv_t ry]; rfl, fun _ ρ cx rx => by rw [bool_inv_t rx]; rfl⟩
    · exact ⟨_, h2, fun ρ cx cy rx ry => by rw [bool_inv_t rx, bool_inv_f ry]; rfl, fun _ ρ cx rx => by rw [bool_inv_t rx]; rfl⟩
    · exact ⟨_, h2, fun ρ cx cy rx ry => by rw [bool_inv_f rx, bool_inv_t ry]; rfl, fun _ ρ cx rx => by rw [bool_inv_f rx]; rfl⟩
    · exact ⟨_, h2, fun ρ cx cy rx ry => by rw [bool_inv_f rx, bool_inv_f ry]; rfl, fun _ ρ cx rx => by rw [bool_inv_f rx]; rfl⟩
  · have h0 : onStr x (fun n a => onStr y fun m b => k (eqS n a m b)) = 1 := h
    obtain ⟨n, a, rfl, h1⟩ := onStr_one h0
    obtain ⟨m, b, rfl, h2⟩ := onStr_one h1
    refine ⟨_, h2, fun ρ cx cy rx ry => ?_, fun ht ρ cx rx => ?_⟩
    · obtain ⟨rfl, ha⟩ := str_inv rx
      obtain ⟨rfl, hb⟩ := str_inv ry
      rw [eqS_eq ha hb]
      simp [scEq, txt_toList']
    · obtain ⟨rfl, ha⟩ := str_inv rx
      have : t = 0 := by omega
      subst this; rfl
/-- Two lists of cells of kinds: are they the same? -/
def ScL : List Nat → List Value → List Value → Bool → Prop
  | [], [], [], r => r = true
  | t :: ts, x :: xs, y :: ys, r => kindV x = some t ∧ ∃ b, scEq x y = some b ∧ if b then ScL ts xs ys r else r = false
  | _, _, _, _ => False
theorem eqLk_one {ts : List Nat} : ∀ {a b : List AVal} {k : Bool → Nat}, (∀ t ∈ ts, t < 3) → eqLk ts a b k = 1 → ∃ r, k r = 1 ∧ ∀ ρ ca cb, LRel ρ a ca → LRel ρ b cb → ScL ts ca cb r := by
  induction ts with
  | nil =>
    intro a b k hts h
    cases a with
    | cons _ _ => cases h
    | nil =>
      cases b with
      | cons _ _ => cases h
      | nil => exact ⟨true, h, fun ρ ca cb ra rb => by rw [ra.nil_inv, rb.nil_inv]; rfl⟩
  | cons t ts ih =>
    intro a b k hts h
    cases a with
    | nil => cases h
    | cons x a =>
      cases b with
      | nil => cases h
      | cons y b =>
        have h0 : eqCk t x y (fun r => ifB r (eqLk ts a b k) (k false)) = 1 := h
        obtain ⟨r, h1, hr, hk⟩ := eqCk_one h0
        have hk := hk (hts t List.mem_cons_self)
        rcases ifB_one h1 with ⟨rfl, h2⟩ | ⟨rfl, h2⟩
        · obtain ⟨r, h3, hr2⟩ := ih (fun u hu => hts u (List.mem_cons_of_mem _ hu)) h2
          refine ⟨r, h3, fun ρ ca cb ra rb => ?_⟩
          obtain ⟨cx, ca, rfl, rx, ra⟩ := ra.uncons
          obtain ⟨cy, cb, rfl, ry, rb⟩ := rb.uncons
          exact ⟨hk ρ cx rx, true, hr ρ cx cy rx ry, hr2 ρ ca cb ra rb⟩
        · refine ⟨false, h2, fun ρ ca cb ra rb => ?_⟩
          obtain ⟨cx, ca, rfl, rx, ra⟩ := ra.uncons
          obtain ⟨cy, cb, rfl, ry, rb⟩ := rb.uncons
          exact ⟨hk ρ cx rx, false, hr ρ cx cy rx ry, rfl⟩

theorem run_scEq {t : TypeId} {d : TypeDesc} (hd : P.underlying t = some d) {n : Nat} (hs : kindOf d = some n) {cx cy : Value} {r : Bool} (hc : kindV cx = some n) (h : scEq cx cy = some r) (m : Nat) (w : World) :
    (Op.equalIn (m + 1) t cx cy).run P w = .ok r w := by
  cases d <;> simp [kindOf] at hs <;> subst hs <;> cases cx <;> simp [kindV] at hc <;> cases cy <;> simp [scEq] at h
  · subst h; exact run_equalIn_bool' w m t _ _ hd
  · obtain ⟨rfl, rfl⟩ := h; exact run_equalIn_int w m t _ _ _ _ hd
  · subst h; exact run_equalIn_string w m t _ _ hd

/-- A struct whose fields are scalars of kinds, one behind the other. -/
def FlatS (P : Program) : List Field → List Nat → Nat → Prop
  | [], [], _ => True
  | f :: fs, t :: ts, j => f.name ≠ "_" ∧ f.offset = j ∧ (∃ d, P.underlying f.type = some d ∧ kindOf d = some t) ∧ FlatS P fs ts (j + 1)
  | _, _, _ => False
theorem FlatS.lt {fs : List Field} : ∀ {ts : List Nat} {j : Nat}, FlatS P fs ts j → ∀ t ∈ ts, t < 3 := by
  induction fs with
  | nil => intro ts j h; cases ts <;> simp_all [FlatS]
  | cons f fs ih =>
    intro ts j h
    cases ts with
    | nil => simp [FlatS] at h
    | cons t ts =>
      obtain ⟨_, _, ⟨d, _, hd⟩, h_1⟩ := h
      intro u hu
      rcases List.mem_cons.mp hu with rfl | hu
      · cases d <;> simp [kindOf] at hd <;> omega
      · exact ih h_1 u hu
theorem run_flatEq (n : Nat) (xs ys : Array Value) (w : World) : ∀ (fs : List Field) (ts : List Nat) (j : Nat) (r : Bool), FlatS P fs ts j → ScL ts (xs.toList.drop j) (ys.toList.drop j) r →
    (Op.eqFields (n + 1) xs ys fs).run P w = .ok r w := by
  intro fs
  induction fs with
  | nil =>
    intro ts j r hf h
    cases ts with
    | cons _ _ => simp [FlatS] at hf
    | nil =>
      cases hd : xs.toList.drop j <;> cases he : ys.toList.drop j <;> rw [hd, he] at h <;> simp [ScL] at h
      subst h; simp [Op.eqFields]
  | cons f fs ih =>
    intro ts j r hf h
    cases ts with
    | nil => simp [FlatS] at hf
    | cons t ts =>
      obtain ⟨hn, ho, ⟨d, hd, hs⟩, hf⟩ := hf
      cases hdx : xs.toList.drop j with
      | nil => rw [hdx] at h; exact absurd h (by cases ys.toList.drop j <;> simp [ScL])
      | cons x xr =>
        cases hdy : ys.toList.drop j with
        | nil => rw [hdx, hdy] at h; simp [ScL] at h
        | cons y yr =>
          rw [hdx, hdy] at h
          obtain ⟨hk, b, hb, h_1⟩ := h
          have gx : xs[j]? = some x := by
            have := List.getElem?_drop (xs := xs.toList) (i := j) (j := 0)
            rw [hdx] at this; simpa using this.symm
          have gy : ys[j]? = some y := by
            have := List.getElem?_drop (xs := ys.toList) (i := j) (j := 0)
            rw [hdy] at this; simpa using this.symm
          have dx : xs.toList.drop (j + 1) = xr := by rw [← List.drop_drop, hdx]; rfl
          have dy : ys.toList.drop (j + 1) = yr := by rw [← List.drop_drop, hdy]; rfl
          have pt : ∀ (cs : Array Value) (v : Value), cs[j]? = some v → (part f.type cs f.offset).run P w = .ok v w := by
            intro cs v hv
            simp only [part, isAgg, Sem.run_bind, run_und hd, Result.andThen_ok, ho]
            cases d <;> simp [kindOf] at hs <;> simp [hv]
          simp only [Op.eqFields, if_pos hn, Sem.run_bind, pt xs x gx, pt ys y gy, Result.andThen_ok, run_scEq hd hs hk hb n w]
          cases b with
          | false => simp at h_1; subst h_1; simp
          | true =>
            simp at h_1
            simp
            exact ih ts (j + 1) r hf (by rw [dx, dy]; exact h_1)

theorem eqA_one {ts : List Nat} {x y : AVal} {k : Bool → Nat} (h : (onAgg x fun a => onAgg y fun b => eqLk ts a b k) = 1) {t : TypeId} {fs : Array Field} (ht : P.underlying t = some (.struct fs)) (hf : FlatS P fs.toList ts 0)
    (hp : P.stoodInHeld t = false) : ∃ r, k r = 1 ∧ ∀ ρ cx cy, VRel ρ x cx → VRel ρ y cy → ∃ xs ys, cx = .agg xs ∧ cy = .agg ys ∧ ∀ w, (Op.equalIn 10000 t cx cy).run P w = .ok r w := by
  obtain ⟨a, rfl, h_1⟩ := onAgg_one h
  obtain ⟨b, rfl, h_2⟩ := onAgg_one h_1
  obtain ⟨r, h_3, hr⟩ := eqLk_one hf.lt h_2
  refine ⟨r, h_3, fun ρ cx cy rx ry => ?_⟩
  obtain ⟨xs, rfl, hx, _⟩ := rx.agg_inv
  obtain ⟨ys, rfl, hy, _⟩ := ry.agg_inv
  refine ⟨xs, ys, rfl, rfl, fun w => ?_⟩
  have e : P.fieldsOf t = fs := by unfold Program.fieldsOf; rw [ht]
  rw [run_equalIn_struct w 9999 t xs ys (by rw [e]; exact ht) hp, e]
  exact run_flatEq 9998 xs ys w fs.toList ts 0 r hf (by simpa using hr ρ _ _ hx hy)
theorem pEqA_ok {ts : List Nat} {x y : AVal} {kv : KP} (h : pEqA ts x y kv = 1) {t : TypeId} {fs : Array Field} (ht : P.underlying t = some (.struct fs)) (hf : FlatS P fs.toList ts 0) (hp : P.stoodInHeld t = false) :
    ∃ v, kv v = 1 ∧ ∀ w ρ cx cy, VRel ρ x cx → VRel ρ y cy → ∃ xs ys cv, cx = .agg xs ∧ cy = .agg ys ∧ (binOp .eql t cx cy).run P w = .ok cv w ∧ VRel ρ v cv := by
  obtain ⟨r, h_1, hr⟩ := eqA_one h ht hf hp
  rw [kb_eq] at h_1
  refine ⟨_, h_1, fun w ρ cx cy rx ry => ?_⟩
  obtain ⟨xs, ys, rfl, rfl, hw⟩ := hr ρ cx cy rx ry
  exact ⟨xs, ys, .bool r, rfl, rfl, by rw [run_eql_struct, hw]; rfl, .bool _⟩
theorem pNeA_ok {ts : List Nat} {x y : AVal} {kv : KP} (h : pNeA ts x y kv = 1) {t : TypeId} {fs : Array Field} (ht : P.underlying t = some (.struct fs)) (hf : FlatS P fs.toList ts 0) (hp : P.stoodInHeld t = false) :
    ∃ v, kv v = 1 ∧ ∀ w ρ cx cy, VRel ρ x cx → VRel ρ y cy → ∃ xs ys cv, cx = .agg xs ∧ cy = .agg ys ∧ (binOp .neq t cx cy).run P w = .ok cv w ∧ VRel ρ v cv := by
  obtain ⟨r, h_1, hr⟩ := eqA_one h ht hf hp
  rw [nkb_eq] at h_1
  refine ⟨_, h_1, fun w ρ cx cy rx ry => ?_⟩
  obtain ⟨xs, ys, rfl, rfl, hw⟩ := hr ρ cx cy rx ry
  exact ⟨xs, ys, .bool (!r), rfl, rfl, by rw [run_neq_struct, hw]; rfl, .bool _⟩

/-! an interface value and nil -/
theorem if_eq {t : TypeId} {ms : Array (String × TypeId)} (ht : P.underlying t = some (.interface ms)) (w : World) {cx cy : Value} {a b : Bool} (ha : if a then cx = .nilIface else ∃ u v, cx = .iface u v) (hb : if b then cy = .nilIface else ∃ u v, cy = .iface u v)
    (h : (a || b) = true) : (Op.equalIn 10000 t cx cy).run P w = .ok (a && b) w := by
  rw [show (10000 : Nat) = 9999 + 1 from rfl, Op.equalIn]
  cases a <;> cases b <;> simp at ha hb h
  · obtain ⟨u, v, rfl⟩ := ha; subst hb; simp [Sem.run_bind, run_und ht]
  · obtain ⟨u, v, rfl⟩ := hb; subst ha; simp [Sem.run_bind, run_und ht]
  · subst ha hb; simp [Sem.run_bind, run_und ht]
theorem if_binOp {t : TypeId} {ms : Array (String × TypeId)} (ht : P.underlying t = some (.interface ms)) (w : World) {cx cy : Value} {a b : Bool} (ha : if a then cx = .nilIface else ∃ u v, cx = .iface u v) (hb : if b then cy = .nilIface else ∃ u v, cy = .iface u v)
    (h : (a || b) = true) : (binOp .eql t cx cy).run P w = .ok (.bool (a && b)) w ∧ (binOp .neq t cx cy).run P w = .ok (.bool (!(a && b))) w := by
  have e := if_eq ht w ha hb h
  have key : ∀ (cx cy : Value), (Op.equalIn 10000 t cx cy).run P w = .ok (a && b) w → (cx = .nilIface ∨ ∃ u v, cx = .iface u v) → (cy = .nilIface ∨ ∃ u v, cy = .iface u v) →
      (binOp .eql t cx cy).run P w = .ok (.bool (a && b)) w ∧ (binOp .neq t cx cy).run P w = .ok (.bool (!(a && b))) w := by
    intro cx cy e hx hy
    rcases hx with rfl | ⟨u, v, rfl⟩ <;> rcases hy with rfl | ⟨u', v', rfl⟩ <;> constructor <;>
      simp only [binOp, Sem.run_bind, Op.equal, Op.maxDepth, e, Result.andThen_ok, Sem.run_pure]
  refine key cx cy e ?_ ?_
  · cases a <;> simp at ha
    · exact .inr ha
    · exact .inl ha
  · cases b <;> simp at hb
    · exact .inr hb
    · exact .inl hb
theorem pEqIf_ok {x y : AVal} {kv : KP} (h : pEqIf x y kv = 1) {t : TypeId} {ms : Array (String × TypeId)} (ht : P.underlying t = some (.interface ms)) : ∃ v, kv v = 1 ∧ GivesP2 P (binOp .eql t) x y v := by
  obtain ⟨a, b, hab, h_1, ha, hb⟩ := eqN_one (C := fun b cx => if b then cx = .nilIface else ∃ u v, cx = .iface u v) nil4 h
  rw [kb_eq] at h_1
  exact ⟨_, h_1, fun w ρ cx cy rx ry => ⟨_, (if_binOp ht w (ha ρ cx rx) (hb ρ cy ry) hab).1, .bool _⟩⟩
theorem pNeIf_ok {x y : AVal} {kv : KP} (h : pNeIf x y kv = 1) {t : TypeId} {ms : Array (String × TypeId)} (ht : P.underlying t = some (.interface ms)) : ∃ v, kv v = 1 ∧ GivesP2 P (binOp .neq t) x y v := by
  obtain ⟨a, b, hab, h_1, ha, hb⟩ := eqN_one (C := fun b cx => if b then cx = .nilIface else ∃ u v, cx = .iface u v) nil4 h
  rw [nkb_eq] at h_1
  exact ⟨_, h_1, fun w ρ cx cy rx ry => ⟨_, (if_binOp ht w (ha ρ cx rx) (hb ρ cy ry) hab).2, .bool _⟩⟩

end Go.Proofs.YtmgigdklcaepdaaGreatDoor.Ax
end

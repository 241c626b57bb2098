/-
  Operations on values alone, the rest. · Operations on values alone, of a type.
-/
import Derived.Test.YtmgigdklcaepdaaGreatDoorXc
set_option linter.unusedVariables false
set_option linter.unusedSimpArgs false
section
namespace Go.Proofs.YtmgigdklcaepdaaGreatDoor.Ax
set_option linter.unusedVariables false
set_option linter.unusedSimpArgs false

def GivesL (s : List Value → Sem Value) (xs : List AVal) (v : AVal) : Prop := ∀ P w ρ cxs, LRel ρ xs cxs → ∃ cv, (s cxs).run P w = .ok cv w ∧ VRel ρ v cv

theorem pure_run {α : Type} (P : Program) (w : World) (a : α) : (Pure.pure a : Sem α).run P w = .ok a w := rfl

/-! eliminations -/
theorem onBool_one {v : AVal} {a b : Nat} (h : onBool v a b = 1) : (v = .tt ∧ a = 1) ∨ (v = .ff ∧ b = 1) := by
  cases v with
  | tt => exact .inl ⟨rfl, h⟩
  | ff => exact .inr ⟨rfl, h⟩
  | _ => cases h
theorem onStr_one {v : AVal} {k : Nat → Nat → Nat} (h : onStr v k = 1) : ∃ n c, v = .str n c ∧ k n c = 1 := by
  cases v with
  | str n c => exact ⟨n, c, rfl, h⟩
  | _ => cases h
theorem onPtr_one {v : AVal} {k kg : Nat → Nat → Nat} (h : onPtr v k kg = 1) : (∃ b o, v = .p b o ∧ k b o = 1) ∨ ∃ g o, v = .z (.gptr g o) ∧ kg g o = 1 := by
  cases v with
  | p b o => exact .inl ⟨b, o, rfl, h⟩
  | z x => cases x with
    | gptr g o => exact .inr ⟨g, o, rfl, h⟩
    | _ => cases h
  | _ => cases h
theorem onSl_one {v : AVal} {k : Nat → Nat → Nat → Nat → ACap → Nat} {k0 : Nat} (h : onSl v k k0 = 1) : (∃ b o n e c, v = .sl b o n e c ∧ k b o n e c = 1) ∨ (v = .z (.cst 1) ∧ k0 = 1) := by
  cases v with
  | sl b o n e c => exact .inl ⟨b, o, n, e, c, rfl, h⟩
  | z x => cases x with
    | cst t =>
      obtain ⟨e, h⟩ := ifB_true h (by decide)
      have := Nat.eq_of_beq_eq_true e
      exact .inr ⟨by rw [this], h⟩
    | _ => cases h
  | _ => cases h
theorem onAgg_one {v : AVal} {k : List AVal → Nat} (h : onAgg v k = 1) : ∃ cs, v = .z (.agg cs) ∧ k cs = 1 := by
  cases v with
  | z x => cases x with
    | agg cs => exact ⟨cs, rfl, h⟩
    | _ => cases h
  | _ => cases h
theorem onTuple_one {v : AVal} {k : List AVal → Nat} (h : onTuple v k = 1) : ∃ cs, v = .z (.tuple cs) ∧ k cs = 1 := by
  cases v with
  | z x => cases x with
    | tuple cs => exact ⟨cs, rfl, h⟩
    | _ => cases h
  | _ => cases h
theorem onMap_one {v : AVal} {k : Nat → Nat} {k0 : Nat} (h : onMap v k k0 = 1) : (∃ b, v = .z (.map b) ∧ k b = 1) ∨ (v = .z (.cst 2) ∧ k0 = 1) := by
  cases v with
  | z x => cases x with
    | map b => exact .inl ⟨b, rfl, h⟩
    | cst t =>
      obtain ⟨e, h⟩ := ifB_true h (by decide)
      have := Nat.eq_of_beq_eq_true e
      exact .inr ⟨by rw [this], h⟩
    | _ => cases h
  | _ => cases h
theorem onFunc_one {v : AVal} {k : Nat → List AVal → List AVal → Nat} (h : onFunc v k = 1) : ∃ f a c, v = .z (.func f a c) ∧ k f a c = 1 := by
  cases v with
  | z x => cases x with
    | func f a c => exact ⟨f, a, c, rfl, h⟩
    | _ => cases h
  | _ => cases h
theorem onIface_one {v : AVal} {k : Nat → AVal → Nat} (h : onIface v k = 1) : ∃ t x, v = .z (.iface t x) ∧ k t x = 1 := by
  cases v with
  | z x => cases x with
    | iface t x => exact ⟨t, x, rfl, h⟩
    | _ => cases h
  | _ => cases h
/-- The cells of a value. -/
def cellsV : AVal → List AVal
  | .z (.agg cs) => cs
  | v => [v]
theorem cellsOf_one {v : AVal} {k : List AVal → Nat} (h : cellsOf v k = 1) : k (cellsV v) = 1 ∧ ∀ cs, v ≠ .z (.tuple cs) := by
  cases v with
  | z x => cases x <;> first | exact ⟨h, fun cs e => by cases e⟩ | cases h
  | _ => exact ⟨h, fun cs e => by cases e⟩
theorem cells_rel {ρ : Ren} {v : AVal} {cv : Value} (h : VRel ρ v cv) (hnt : ∀ cs, v ≠ .z (.tuple cs)) : LRel ρ (cellsV v) cv.cells.toList ∧ One cv.cells.toList := by
  cases h with
  | agg hl h h1 => exact ⟨⟨by simpa [cellsV, Value.cells] using hl, fun i x y hx hy => h i x y hx (by simpa [Value.cells] using hy)⟩, h1⟩
  | n m => exact ⟨.cons (.n m) .nil, fun y hy => by simp [Value.cells] at hy; subst hy; rfl⟩
  | int k n => exact ⟨.cons (.int k n) .nil, fun y hy => by simp [Value.cells] at hy; subst hy; rfl⟩
  | tt => exact ⟨.cons .tt .nil, fun y hy => by simp [Value.cells] at hy; subst hy; rfl⟩
  | ff => exact ⟨.cons .ff .nil, fun y hy => by simp [Value.cells] at hy; subst hy; rfl⟩
  | p h => exact ⟨.cons (.p h) .nil, fun y hy => by simp [Value.cells] at hy; subst hy; rfl⟩
  | sl h hc hl h0 ht => exact ⟨.cons (.sl h hc hl h0 ht) .nil, fun y hy => by simp [Value.cells] at hy; subst hy; rfl⟩
  | slE h hc ht => exact ⟨.cons (.slE h hc ht) .nil, fun y hy => by simp [Value.cells] at hy; subst hy; rfl⟩
  | str h => exact ⟨.cons (.str h) .nil, fun y hy => by simp [Value.cells] at hy; subst hy; rfl⟩
  | ptr0 => exact ⟨.cons .ptr0 .nil, fun y hy => by simp [Value.cells] at hy; subst hy; rfl⟩
  | sl0 => exact ⟨.cons .sl0 .nil, fun y hy => by simp [Value.cells] at hy; subst hy; rfl⟩
  | map0 => exact ⟨.cons .map0 .nil, fun y hy => by simp [Value.cells] at hy; subst hy; rfl⟩
  | fn0 => exact ⟨.cons .fn0 .nil, fun y hy => by simp [Value.cells] at hy; subst hy; rfl⟩
  | if0 => exact ⟨.cons .if0 .nil, fun y hy => by simp [Value.cells] at hy; subst hy; rfl⟩
  | map h => exact ⟨.cons (.map h) .nil, fun y hy => by simp [Value.cells] at hy; subst hy; rfl⟩
  | gptr g o => exact ⟨.cons (.gptr g o) .nil, fun y hy => by simp [Value.cells] at hy; subst hy; rfl⟩
  | tuple hl h => exact absurd rfl (hnt _)
  | func hla ha hlc hc => exact ⟨.cons (.func hla ha hlc hc) .nil, fun y hy => by simp [Value.cells] at hy; subst hy; rfl⟩
  | iface h => exact ⟨.cons (.iface h) .nil, fun y hy => by simp [Value.cells] at hy; subst hy; rfl⟩

/-! lists -/
theorem len'_eq {α : Type} (l : List α) : len' l = l.length := by
  induction l with
  | nil => rfl
  | cons x l ih => show Nat.succ (len' l) = _; rw [ih]; rfl
theorem nth_one {α : Type} {l : List α} : ∀ {n : Nat} {k : α → Nat}, nth l n k = 1 → ∃ x, l[n]? = some x ∧ k x = 1 := by
  induction l with
  | nil => intro n k h; cases h
  | cons x l ih =>
    intro n k h
    cases n with
    | zero => exact ⟨x, rfl, h⟩
    | succ n => obtain ⟨y, a, b⟩ := ih h; exact ⟨y, by simpa using a, b⟩
theorem dropL_eq {α : Type} (l : List α) : ∀ (n : Nat) (k : List α → Nat), dropL l n k = k (l.drop n) := by
  induction l with
  | nil => intro n k; simp; rfl
  | cons x l ih =>
    intro n k
    cases n with
    | zero => rfl
    | succ n => exact ih n k
theorem takeL_one {α : Type} {l : List α} : ∀ {n : Nat} {k : List α → Nat}, takeL l n k = 1 → n ≤ l.length ∧ k (l.take n) = 1 := by
  induction l with
  | nil =>
    intro n k h
    cases n with
    | zero => exact ⟨Nat.le_refl _, h⟩
    | succ n => cases h
  | cons x l ih =>
    intro n k h
    cases n with
    | zero => exact ⟨Nat.zero_le _, h⟩
    | succ n => obtain ⟨a, b⟩ := ih h; exact ⟨by simp; exact a, b⟩
theorem appL_eq {α : Type} (l r : List α) (k : List α → Nat) : appL l r k = k (l ++ r) := by
  induction l generalizing k with
  | nil => rfl
  | cons x l ih => exact ih _
/-- A list over another one. -/
def over {α : Type} (l new : List α) (n : Nat) : List α := l.take n ++ new ++ l.drop (n + new.length)
theorem overL_one {α : Type} {l : List α} : ∀ {new : List α} {n : Nat} {k : List α → Nat}, n ≤ l.length → overL l new n k = 1 → n + new.length ≤ l.length ∧ k (over l new n) = 1 := by
  induction l with
  | nil =>
    intro new n k hn h
    have : n = 0 := by simpa using hn
    subst this
    cases new with
    | nil => exact ⟨by simp, h⟩
    | cons y ys => cases h
  | cons x l ih =>
    intro new n k hn h
    cases n with
    | zero =>
      cases new with
      | nil => exact ⟨by simp, h⟩
      | cons y ys =>
        obtain ⟨a, b⟩ := ih (new := ys) (n := 0) (Nat.zero_le _) h
        refine ⟨by simp at a ⊢; omega, ?_⟩
        have e : over (x :: l) (y :: ys) 0 = y :: over l ys 0 := by simp [over]
        rw [e]; exact b
    | succ n =>
      obtain ⟨a, b⟩ := ih (new := new) (n := n) (by simpa using hn) h
      refine ⟨by simp at a ⊢; omega, ?_⟩
      have e : over (x :: l) new (n + 1) = x :: over l new n := by simp [over, Nat.add_right_comm]
      rw [e]; exact b
theorem over_length {α : Type} (l new : List α) (n : Nat) (h : n + new.length ≤ l.length) : (over l new n).length = l.length := by
  simp [over]; omega
theorem over_get {α : Type} (l new : List α) (n i : Nat) (h : n + new.length ≤ l.length) : (over l new n)[i]? = if n ≤ i ∧ i < n + new.length then new[i - n]? else l[i]? := by
  unfold over
  by_cases h1 : i < n
  · rw [List.append_assoc, List.getElem?_append_left (by simp; omega), List.getElem?_take, if_pos h1, if_neg (by omega)]
  · by_cases h2 : i < n + new.length
    · rw [List.getElem?_append_left (by simp; omega), List.getElem?_append_right (by simp; omega), if_pos ⟨by omega, h2⟩]
      congr 1
      simp; omega
    · rw [List.getElem?_append_right (by simp; omega), if_neg (by omega), List.getElem?_drop]
      congr 1
      simp; omega
theorem LRel.over {ρ : Ren} {a b : List AVal} {ca cb : List Value} (n : Nat) (h : LRel ρ a ca) (k : LRel ρ b cb) : LRel ρ (over a b n) (over ca cb n) := by
  unfold Ax.over
  rw [k.1]
  exact ((h.take n).append k).append (h.drop _)

/-! the operations -/
theorem pConv_ok {k : IntKind} {x : AVal} {kv : KP} (h : pConv k x kv = 1) : ∃ v, kv v = 1 ∧ ∀ P w ρ cx, VRel ρ x cx → ∃ j n cv, cx = .int j n ∧ (Conv.intToInt k n).run P w = .ok cv w ∧ VRel ρ v cv := by
  obtain ⟨j, n, hx, h⟩ := onInt_one h
  rw [wr_eq] at h
  exact ⟨_, h, fun P w ρ cx rx => ⟨j, n, _, int_inv rx hx, rfl, .mkV _ _⟩⟩
theorem pNot_ok {x : AVal} {kv : KP} (h : pNot x kv = 1) : ∃ v, kv v = 1 ∧ Gives1 (Op.unary .not) x v := by
  rcases onBool_one h with ⟨rfl, h⟩ | ⟨rfl, h⟩
  · exact ⟨_, h, fun P w ρ cx rx => by cases rx; exact ⟨.bool false, rfl, .ff⟩⟩
  · exact ⟨_, h, fun P w ρ cx rx => by cases rx; exact ⟨.bool true, rfl, .tt⟩⟩
theorem pNeg_ok {x : AVal} {kv : KP} (h : pNeg x kv = 1) : ∃ v, kv v = 1 ∧ Gives1 (Op.unary .neg) x v := by
  obtain ⟨j, n, hx, h⟩ := onInt_one h
  rw [subI_eq] at h
  exact ⟨_, h, fun P w ρ cx rx => by rw [int_inv rx hx]; exact ⟨_, rfl, .mkV _ _⟩⟩
theorem pMin_ok {x y : AVal} {kv : KP} (h : pMin x y kv = 1) : ∃ v, kv v = 1 ∧ Gives2 Builtin.min2 x y v := by
  obtain ⟨k, a, hx, h⟩ := onInt_one h
  obtain ⟨j, b, hy, h⟩ := onInt_one h
  rw [ifB_eq, leI_eq, mk_eq, mk_eq] at h
  have h2 : kv (mkV k (if b < a then b else a)) = 1 := by
    by_cases hle : a ≤ b
    · rw [if_pos (by simpa using hle)] at h; rw [if_neg (by omega)]; exact h
    · rw [if_neg (by simpa using hle)] at h; rw [if_pos (by omega)]; exact h
  exact ⟨_, h2, fun P w ρ cx cy rx ry => by rw [int_inv rx hx, int_inv ry hy]; exact ⟨_, rfl, .mkV _ _⟩⟩
theorem pMax_ok {x y : AVal} {kv : KP} (h : pMax x y kv = 1) : ∃ v, kv v = 1 ∧ Gives2 Builtin.max2 x y v := by
  obtain ⟨k, a, hx, h⟩ := onInt_one h
  obtain ⟨j, b, hy, h⟩ := onInt_one h
  rw [ifB_eq, leI_eq, mk_eq, mk_eq] at h
  have h2 : kv (mkV k (if b > a then b else a)) = 1 := by
    by_cases hle : b ≤ a
    · rw [if_pos (by simpa using hle)] at h; rw [if_neg (by omega)]; exact h
    · rw [if_neg (by simpa using hle)] at h; rw [if_pos (by omega)]; exact h
  exact ⟨_, h2, fun P w ρ cx cy rx ry => by rw [int_inv rx hx, int_inv ry hy]; exact ⟨_, rfl, .mkV _ _⟩⟩

theorem pCat_ok {x y : AVal} {kv : KP} (h : pCat x y kv = 1) (t : TypeId) : ∃ v, kv v = 1 ∧ Gives2 (binOp .add t) x y v := by
  obtain ⟨n, a, rfl, h1⟩ := onStr_one h
  obtain ⟨m, b, rfl, h2⟩ := onStr_one h1
  have h := h2
  dsimp only at h
  clear h1 h2
  rw [force_eq] at h
  obtain ⟨hb, h⟩ := ifB_true h (by decide)
  rw [force_eq, shl8] at h
  have hle : n + m ≤ 1000000000 := Nat.le_of_ble_eq_true hb
  refine ⟨_, h, fun P w ρ cx cy rx ry => ?_⟩
  obtain ⟨rfl, ha⟩ := str_inv rx
  obtain ⟨rfl, hb⟩ := str_inv ry
  refine ⟨.string (txt n a ++ txt m b), ?_, ?_⟩
  · have : ¬ (((txt n a).size + (txt m b).size : Nat) : Int) > IntKind.i64.max := by rw [txt_size, txt_size]; simp [IntKind.max, IntKind.signed, IntKind.bits]; omega
    simp only [binOp, Op.stringOp, this, if_false]
    rfl
  · have e : txt n a ++ txt m b = txt (n + m) (a + b * 256 ^ n) := by
      unfold txt
      rw [← bytesOf_append n m a b ha]
      apply ByteArray.ext
      simp
    rw [e]
    exact .str (append_lt n m a b ha hb)
theorem eqS_eq {n a m b : Nat} (ha : a < 256 ^ n) (hb : b < 256 ^ m) : eqS n a m b = (bytesOf n a == bytesOf m b) := by
  unfold eqS
  rw [andB_eq, Bool.eq_iff_iff, Bool.and_eq_true, Nat.beq_eq, Nat.beq_eq, beq_iff_eq]
  constructor
  · rintro ⟨rfl, rfl⟩; rfl
  · intro e
    have hl := congrArg List.length e
    rw [bytesOf_length, bytesOf_length] at hl
    subst hl
    exact ⟨rfl, bytesOf_inj _ _ _ ha hb e⟩
theorem pEqS_ok {x y : AVal} {kv : KP} (h : pEqS x y kv = 1) (t : TypeId) : ∃ v, kv v = 1 ∧ Gives2 (binOp .eql t) x y v := by
  obtain ⟨n, a, rfl, h1⟩ := onStr_one h
  obtain ⟨m, b, rfl, h2⟩ := onStr_one h1
  have h := h2
  dsimp only at h
  clear h1 h2
  rw [kb_eq] at h
  refine ⟨_, h, fun P w ρ cx cy rx ry => ?_⟩
  obtain ⟨rfl, ha⟩ := str_inv rx
  obtain ⟨rfl, hb⟩ := str_inv ry
  refine ⟨.bool (bytesOf n a == bytesOf m b), ?_, by rw [eqS_eq ha hb]; exact .bool _⟩
  simp only [binOp, Op.stringOp, txt_toList']
  rfl
theorem pNeS_ok {x y : AVal} {kv : KP} (h : pNeS x y kv = 1) (t : TypeId) : ∃ v, kv v = 1 ∧ Gives2 (binOp .neq t) x y v := by
  obtain ⟨n, a, rfl, h1⟩ := onStr_one h
  obtain ⟨m, b, rfl, h2⟩ := onStr_one h1
  have h := h2
  dsimp only at h
  clear h1 h2
  rw [nkb_eq] at h
  refine ⟨_, h, fun P w ρ cx cy rx ry => ?_⟩
  obtain ⟨rfl, ha⟩ := str_inv rx
  obtain ⟨rfl, hb⟩ := str_inv ry
  refine ⟨.bool (!(bytesOf n a == bytesOf m b)), ?_, by rw [eqS_eq ha hb]; exact .bool _⟩
  simp only [binOp, Op.stringOp, txt_toList']
  rfl
theorem ltS_eq (fuel : Nat) : ∀ (n a m b : Nat), n + m < fuel → ltS fuel n a m b = Op.bytesLess (bytesOf n a) (bytesOf m b) := by
  induction fuel with
  | zero => intro n a m b h; omega
  | succ f ih =>
    intro n a m b h
    cases m with
    | zero => cases n <;> simp [bytesOf, Op.bytesLess] <;> rfl
    | succ m =>
      cases n with
      | zero => simp [bytesOf, Op.bytesLess]; rfl
      | succ n =>
        show (Bool.rec (Nat.ble (Nat.succ (a % 256)) (b % 256)) (ltS f n (a / 256) m (b / 256)) (Nat.beq (a % 256) (b % 256)) : Bool) = _
        simp only [bytesOf, Op.bytesLess]
        rw [ih _ _ _ _ (by omega)]
        have h1 : (UInt8.ofNat (a % 256) == UInt8.ofNat (b % 256)) = Nat.beq (a % 256) (b % 256) := by
          rw [Bool.eq_iff_iff, beq_iff_eq, Nat.beq_eq]
          constructor
          · intro e; have := congrArg UInt8.toNat e; simpa using this
          · intro e; rw [e]
        have h2 : (decide (UInt8.ofNat (a % 256) < UInt8.ofNat (b % 256))) = Nat.ble (Nat.succ (a % 256)) (b % 256) := by
          rw [Bool.eq_iff_iff, decide_eq_true_iff, Nat.ble_eq, UInt8.lt_iff_toNat_lt]
          simp
          omega
        rw [h1, h2]
        cases hq : Nat.beq (a % 256) (b % 256) with
        | true =>
          have := Nat.eq_of_beq_eq_true hq
          have h3 : Nat.ble (Nat.succ (a % 256)) (b % 256) = false := by rw [← Bool.not_eq_true, Nat.ble_eq]; omega
          simp [h3]
        | false => simp
theorem pLtS_ok {x y : AVal} {kv : KP} (h : pLtS x y kv = 1) (t : TypeId) : ∃ v, kv v = 1 ∧ Gives2 (binOp .lss t) x y v := by
  obtain ⟨n, a, rfl, h1⟩ := onStr_one h
  obtain ⟨m, b, rfl, h2⟩ := onStr_one h1
  have h := h2
  dsimp only at h
  clear h1 h2
  rw [kb_eq, ltS_eq (Nat.succ (Nat.add n m)) n a m b (Nat.lt_succ_self _)] at h
  refine ⟨_, h, fun P w ρ cx cy rx ry => ?_⟩
  obtain ⟨rfl, ha⟩ := str_inv rx
  obtain ⟨rfl, hb⟩ := str_inv ry
  refine ⟨.bool (Op.bytesLess (bytesOf n a) (bytesOf m b)), ?_, .bool _⟩
  simp only [binOp, Op.stringOp, txt_toList']
  rfl
theorem bytesLess_gt (x y : List UInt8) : Op.bytesLess y x = !(Op.bytesLess x y || x == y) := by
  induction x generalizing y with
  | nil => cases y <;> rfl
  | cons a x ih =>
    cases y with
    | nil => simp [Op.bytesLess]
    | cons b y =>
      simp only [Op.bytesLess]
      rw [ih]
      have tri : a < b ∨ a = b ∨ b < a := by
        rw [UInt8.lt_iff_toNat_lt, UInt8.lt_iff_toNat_lt, ← UInt8.toNat_inj]
        omega
      rcases tri with hlt | he | hgt
      · have h1 : ¬ b < a := UInt8.lt_asymm hlt
        have h2 : ¬ b = a := fun e => by subst e; exact UInt8.lt_irrefl _ hlt
        simp [hlt, h1, h2]
      · subst he
        simp [UInt8.lt_irrefl]
      · have h1 : ¬ a < b := UInt8.lt_asymm hgt
        have h2 : ¬ a = b := fun e => by subst e; exact UInt8.lt_irrefl _ hgt
        simp [hgt, h1, h2]
theorem pGtS_ok {x y : AVal} {kv : KP} (h : pGtS x y kv = 1) (t : TypeId) : ∃ v, kv v = 1 ∧ Gives2 (binOp .gtr t) x y v := by
  obtain ⟨n, a, rfl, h1⟩ := onStr_one h
  obtain ⟨m, b, rfl, h2⟩ := onStr_one h1
  have h := h2
  dsimp only at h
  clear h1 h2
  rw [kb_eq, ltS_eq (Nat.succ (Nat.add n m)) m b n a (by have := Nat.lt_succ_self (n + m); rw [Nat.add_comm m n]; exact this)] at h
  refine ⟨_, h, fun P w ρ cx cy rx ry => ?_⟩
  obtain ⟨rfl, ha⟩ := str_inv rx
  obtain ⟨rfl, hb⟩ := str_inv ry
  refine ⟨.bool (!(Op.bytesLess (bytesOf n a) (bytesOf m b) || bytesOf n a == bytesOf m b)), ?_, by rw [bytesLess_gt]; exact .bool _⟩
  simp only [binOp, Op.stringOp, txt_toList']
  rfl

end Go.Proofs.YtmgigdklcaepdaaGreatDoor.Ax
end
section
namespace Go.Proofs.YtmgigdklcaepdaaGreatDoor.Ax
set_option linter.unusedVariables false
set_option linter.unusedSimpArgs false

variable {P : Program}

theorem run_und {t : TypeId} {d : TypeDesc} (h : P.underlying t = some d) (w : World) : (underlying t).run P w = .ok d w := by
  unfold underlying; simp [Sem.run_bind, h]
theorem run_info {t : TypeId} {i : TypeInfo} (h : P.info? t = some i) (w : World) : (typeInfo t).run P w = .ok i w := by
  unfold typeInfo; simp [Sem.run_bind, h]
theorem run_size {t : TypeId} {i : TypeInfo} (h : P.info? t = some i) (w : World) : (sizeOf t).run P w = .ok i.size w := by
  unfold sizeOf; simp [Sem.run_bind, run_info h]
theorem run_zero {t : TypeId} {i : TypeInfo} {z : Value} (h : P.info? t = some i) (hz : i.zero = some z) (w : World) : (zeroValue t).run P w = .ok z w := by
  unfold zeroValue; simp [Sem.run_bind, run_info h, hz]

theorem capOk_sub {cap : ACap} {c n : Nat} (h : capOk cap c) : capOk (ACap.rec (fun m => .ex (m - n)) (fun m => .ge (m - n)) cap : ACap) (c - n) := by
  cases cap <;> simp only [capOk] at h ⊢ <;> omega
theorem subC_eq (c : ACap) (n : Nat) (k : ACap → Nat) : subC c n k = k (ACap.rec (fun m => .ex (m - n)) (fun m => .ge (m - n)) c : ACap) := by
  cases c <;> (unfold subC; dsimp only; rw [force_eq]; rfl)

/-- What has one answer in every world. -/
def GivesP1 (P : Program) (s : Value → Sem Value) (x v : AVal) : Prop := ∀ w ρ cx, VRel ρ x cx → ∃ cv, (s cx).run P w = .ok cv w ∧ VRel ρ v cv
def GivesP2 (P : Program) (s : Value → Value → Sem Value) (x y v : AVal) : Prop := ∀ w ρ cx cy, VRel ρ x cx → VRel ρ y cy → ∃ cv, (s cx cy).run P w = .ok cv w ∧ VRel ρ v cv

theorem bool_inv_t {ρ : Ren} {cv : Value} (h : VRel ρ .tt cv) : cv = .bool true := by cases h; rfl
theorem bool_inv_f {ρ : Ren} {cv : Value} (h : VRel ρ .ff cv) : cv = .bool false := by cases h; rfl

theorem addr_add (c d o n : Nat) : Addr.add ⟨c, d + o, none⟩ n = ⟨c, d + (o + n), none⟩ := by
  unfold Addr.add
  split
  · subst_vars; rfl
  · simp [Nat.add_assoc]
theorem addr_add' (g o n : Nat) : Addr.add ⟨g, o, none⟩ n = ⟨g, o + n, none⟩ := by
  unfold Addr.add
  split
  · subst_vars; rfl
  · rfl

theorem pNil_ok {x : AVal} {kv : KP} (h : pNil x kv = 1) : ∃ v, kv v = 1 ∧ ∀ ρ cx, VRel ρ x cx → VRel ρ v cx ∧ (∃ a, cx = .pointer (some a)) := by
  rcases onPtr_one h with ⟨b, o, rfl, h_1⟩ | ⟨g, o, rfl, h_1⟩
  · exact ⟨_, h_1, fun ρ cx rx => ⟨rx, by cases rx; exact ⟨_, rfl⟩⟩⟩
  · exact ⟨_, h_1, fun ρ cx rx => ⟨rx, by cases rx; exact ⟨_, rfl⟩⟩⟩

theorem pFieldAddr_ok {d : Nat} {x : AVal} {kv : KP} (h : pFieldAddr d x kv = 1) {s : TypeId} {f : Nat} {fs : Array Field} {fl : Field} {i : TypeInfo}
    (hs : P.underlying s = some (.struct fs)) (hf : fs[f]? = some fl) (hd : fl.offset = d) (hi : P.info? fl.type = some i) (hz : i.size ≠ 0) : ∃ v, kv v = 1 ∧ GivesP1 P (fun x => Instr.fieldAt s x f) x v := by
  rcases onPtr_one h with ⟨b, o, rfl, h_1⟩ | ⟨g, o, rfl, h_1⟩
  · rw [force_eq] at h_1
    refine ⟨_, h_1, fun w ρ cx rx => ?_⟩
    cases rx with
    | p hb =>
      refine ⟨_, ?_, .p hb⟩
      simp [Instr.fieldAt, Sem.run_bind, run_und hs, hf, Instr.sureAddr, fieldPlace, run_size hi, hz, hd]
      rw [addr_add]
  · rw [force_eq] at h_1
    refine ⟨_, h_1, fun w ρ cx rx => ?_⟩
    cases rx with
    | gptr =>
      refine ⟨_, ?_, .gptr _ _⟩
      simp [Instr.fieldAt, Sem.run_bind, run_und hs, hf, Instr.sureAddr, fieldPlace, run_size hi, hz, hd]
      rw [addr_add']

theorem pIndexAddr_ok {sz : Nat} {x y : AVal} {kv : KP} (h : pIndexAddr sz x y kv = 1) {t e : TypeId} {i : TypeInfo} (ht : P.underlying t = some (.slice e)) (hi : P.info? e = some i) (hz : i.size = sz) :
    ∃ v, kv v = 1 ∧ GivesP2 P (Instr.indexAt t) x y v := by
  rcases onSl_one h with ⟨b, o, n, es, c, rfl, h_1⟩ | ⟨_, h_1⟩
  · obtain ⟨j, m, hy, h_2⟩ := onInt_one h_1
    obtain ⟨m, rfl, h_3⟩ := natI_one h_2
    obtain ⟨hlt, h_4⟩ := ifB_true h_3 (by decide)
    rw [force_eq] at h_4
    have hlt : m < n := Nat.le_of_ble_eq_true hlt
    refine ⟨_, h_4, fun w ρ cx cy rx ry => ?_⟩
    rw [int_inv ry hy]
    cases rx with
    | sl hb hc hl h0 ht' =>
      refine ⟨_, ?_, .p hb⟩
      simp [Instr.indexAt, Sem.run_bind, asIntOf, run_und ht, run_size hi, hz]
      rw [if_pos (by omega), addr_add]
    | slE _ _ _ => omega
  · cases h_1
theorem pIndexAddrA_ok {len sz : Nat} {x y : AVal} {kv : KP} (h : pIndexAddrA len sz x y kv = 1) {t e : TypeId} {i : TypeInfo} (ht : P.underlying t = some (.array len e)) (hi : P.info? e = some i) (hz : i.size = sz) :
    ∃ v, kv v = 1 ∧ GivesP2 P (Instr.indexAt t) x y v := by
  obtain ⟨j, m, hy, h_1⟩ := onInt_one h
  obtain ⟨m, rfl, h_2⟩ := natI_one h_1
  obtain ⟨hlt, h_3⟩ := ifB_true h_2 (by decide)
  have hlt : m < len := Nat.le_of_ble_eq_true hlt
  rcases onPtr_one h_3 with ⟨b, o, rfl, h_4⟩ | ⟨g, o, rfl, h_4⟩
  · rw [force_eq] at h_4
    refine ⟨_, h_4, fun w ρ cx cy rx ry => ?_⟩
    rw [int_inv ry hy]
    cases rx with
    | p hb =>
      refine ⟨_, ?_, .p hb⟩
      simp [Instr.indexAt, Sem.run_bind, asIntOf, run_und ht, run_size hi, hz, Instr.sureAddr]
      rw [if_pos (by omega), addr_add]
  · rw [force_eq] at h_4
    refine ⟨_, h_4, fun w ρ cx cy rx ry => ?_⟩
    rw [int_inv ry hy]
    cases rx with
    | gptr =>
      refine ⟨_, ?_, .gptr _ _⟩
      simp [Instr.indexAt, Sem.run_bind, asIntOf, run_und ht, run_size hi, hz, Instr.sureAddr]
      rw [if_pos (by omega), addr_add']

theorem txt_get (n code i : Nat) (h : i < n) : (txt n code)[i]? = some (UInt8.ofNat (code / 256 ^ i % 256)) := by
  have hs := txt_size n code
  rw [getElem?_pos (txt n code) i (by rw [hs]; exact h)]
  have e := bytesOf_get n code i h
  rw [List.getElem?_eq_getElem (by rw [bytesOf_length]; exact h)] at e
  exact e
theorem u8_back (m : Nat) : (UInt8.ofNat (m % 256)).toNat = m % 256 := by simp
theorem pIndexStr_ok {x y : AVal} {kv : KP} (h : pIndexStr x y kv = 1) {t : TypeId} (ht : P.underlying t = some .string) : ∃ v, kv v = 1 ∧ GivesP2 P (Instr.index t) x y v := by
  obtain ⟨n, a, rfl, h_1⟩ := onStr_one h
  obtain ⟨j, m, hy, h_2⟩ := onInt_one h_1
  obtain ⟨m, rfl, h_3⟩ := natI_one h_2
  obtain ⟨hlt, h_4⟩ := ifB_true h_3 (by decide)
  have hlt : m < n := Nat.le_of_ble_eq_true hlt
  rw [force_eq, byteAt_eq] at h_4
  refine ⟨_, h_4, fun w ρ cx cy rx ry => ?_⟩
  rw [int_inv ry hy]
  obtain ⟨rfl, ha⟩ := str_inv rx
  refine ⟨.int .u8 ((a / 256 ^ m % 256 : Nat) : Int), ?_, .int _ _⟩
  simp [Instr.index, Sem.run_bind, asIntOf, run_und ht, txt_get n a m hlt]

theorem pPick_ok {c x y : AVal} {kv : KP} (h : pPick c x y kv = 1) : ∃ v, kv v = 1 ∧ ∀ ρ cc cx cy, VRel ρ c cc → VRel ρ x cx → VRel ρ y cy → ∃ b, cc = .bool b ∧ VRel ρ v (if b then cx else cy) := by
  rcases onBool_one h with ⟨rfl, h_1⟩ | ⟨rfl, h_1⟩
  · exact ⟨_, h_1, fun ρ cc cx cy rc rx ry => ⟨true, bool_inv_t rc, rx⟩⟩
  · exact ⟨_, h_1, fun ρ cc cx cy rc rx ry => ⟨false, bool_inv_f rc, ry⟩⟩
theorem pExtract_ok {n : Nat} {x : AVal} {kv : KP} (h : pExtract n x kv = 1) : ∃ v, kv v = 1 ∧ GivesP1 P (fun x => Instr.extract x n) x v := by
  obtain ⟨cs, rfl, h_1⟩ := onTuple_one h
  obtain ⟨v, hv, h_2⟩ := nth_one h_1
  refine ⟨_, h_2, fun w ρ cx rx => ?_⟩
  obtain ⟨vs, rfl, hl⟩ := rx.tuple_inv
  obtain ⟨y, hy, ry⟩ := hl.get hv
  refine ⟨y, ?_, ry⟩
  have hy : vs[n]? = some y := by simpa using hy
  simp [Instr.extract, hy]
theorem pField1_ok {d : Nat} {x : AVal} {kv : KP} (h : pField1 d x kv = 1) {s : TypeId} {f : Nat} {fs : Array Field} {fl : Field} {de : TypeDesc}
    (hs : P.underlying s = some (.struct fs)) (hf : fs[f]? = some fl) (hd : fl.offset = d) (hu : P.underlying fl.type = some de) (hn : (match de with | .struct _ | .array _ _ => true | _ => false) = false) :
    ∃ v, kv v = 1 ∧ GivesP1 P (fun x => Instr.field s x f) x v := by
  obtain ⟨cs, rfl, h_1⟩ := onAgg_one h
  obtain ⟨v, hv, h_2⟩ := nth_one h_1
  refine ⟨_, h_2, fun w ρ cx rx => ?_⟩
  obtain ⟨vs, rfl, hl, h1⟩ := rx.agg_inv
  obtain ⟨y, hy, ry⟩ := hl.get hv
  refine ⟨y, ?_, ry⟩
  have hy : vs[d]? = some y := by simpa using hy
  simp [Instr.field, Sem.run_bind, run_und hs, hf, asAgg, part, isAgg, run_und hu, hd]
  cases de <;> simp_all
theorem pFieldN_ok {d n : Nat} {x : AVal} {kv : KP} (h : pFieldN d n x kv = 1) {s : TypeId} {f : Nat} {fs : Array Field} {fl : Field} {de : TypeDesc} {i : TypeInfo}
    (hs : P.underlying s = some (.struct fs)) (hf : fs[f]? = some fl) (hd : fl.offset = d) (hu : P.underlying fl.type = some de) (hn : (match de with | .struct _ | .array _ _ => true | _ => false) = true)
    (hi : P.info? fl.type = some i) (hz : i.size = n) :
    ∃ v, kv v = 1 ∧ GivesP1 P (fun x => Instr.field s x f) x v := by
  obtain ⟨cs, rfl, h_1⟩ := onAgg_one h
  rw [dropL_eq] at h_1
  obtain ⟨hle, h_2⟩ := takeL_one h_1
  refine ⟨_, h_2, fun w ρ cx rx => ?_⟩
  obtain ⟨vs, rfl, hl, h1⟩ := rx.agg_inv
  refine ⟨.agg (vs.extract d (d + n)), ?_, .aggL ?_ ?_⟩
  · simp [Instr.field, Sem.run_bind, run_und hs, hf, asAgg, part, isAgg, run_und hu, hd, run_size hi, hz]
    cases de <;> simp_all
  · have := (hl.drop d).take n
    simpa [Array.toList_extract, List.extract_eq_take_drop] using this
  · intro y hy
    refine h1 y ?_
    rw [Array.toList_extract, List.extract_eq_take_drop] at hy
    exact List.mem_of_mem_drop (List.mem_of_mem_take hy)

theorem nil1 {x : AVal} {k : Bool → Nat} (h : isPtr0 x k = 1) : ∃ b, k b = 1 ∧ ∀ ρ cx, VRel ρ x cx → ∃ a, cx = .pointer a ∧ a.isNone = b := by
  cases x with
  | p b o => exact ⟨false, h, fun ρ cx rx => by cases rx; exact ⟨_, rfl, rfl⟩⟩
  | z o => cases o with
    | gptr g o => exact ⟨false, h, fun ρ cx rx => by cases rx; exact ⟨_, rfl, rfl⟩⟩
    | cst t =>
      obtain ⟨e, h_1⟩ := ifB_true h (by decide)
      have e := Nat.eq_of_beq_eq_true e
      subst e
      exact ⟨true, h_1, fun ρ cx rx => by cases rx; exact ⟨_, rfl, rfl⟩⟩
    | _ => cases h
  | _ => cases h
theorem nil2 {x : AVal} {k : Bool → Nat} (h : isSl0 x k = 1) : ∃ b, k b = 1 ∧ ∀ ρ cx, VRel ρ x cx → ∃ a n c, cx = .slice a n c ∧ a.isNone = b := by
  rcases onSl_one h with ⟨b, o, n, es, c, rfl, h_1⟩ | ⟨rfl, h_1⟩
  · exact ⟨false, h_1, fun ρ cx rx => by cases rx <;> exact ⟨_, _, _, rfl, rfl⟩⟩
  · exact ⟨true, h_1, fun ρ cx rx => by cases rx; exact ⟨_, _, _, rfl, rfl⟩⟩
theorem nil3 {x : AVal} {k : Bool → Nat} (h : isMap0 x k = 1) : ∃ b, k b = 1 ∧ ∀ ρ cx, VRel ρ x cx → ∃ a, cx = .map a ∧ a.isNone = b := by
  rcases onMap_one h with ⟨b, rfl, h_1⟩ | ⟨rfl, h_1⟩
  · exact ⟨false, h_1, fun ρ cx rx => by cases rx; exact ⟨_, rfl, rfl⟩⟩
  · exact ⟨true, h_1, fun ρ cx rx => by cases rx; exact ⟨_, rfl, rfl⟩⟩
theorem nil4 {x : AVal} {k : Bool → Nat} (h : isIf0 x k = 1) : ∃ b, k b = 1 ∧ ∀ ρ cx, VRel ρ x cx → if b then cx = .nilIface else ∃ t v, cx = .iface t v := by
  cases x with
  | z o => cases o with
    | iface t v => exact ⟨false, h, fun ρ cx rx => by cases rx; exact ⟨_, _, rfl⟩⟩
    | cst t =>
      obtain ⟨e, h_1⟩ := ifB_true h (by decide)
      have e := Nat.eq_of_beq_eq_true e
      subst e
      exact ⟨true, h_1, fun ρ cx rx => by cases rx; rfl⟩
    | _ => cases h
  | _ => cases h

/-- One of the two is nil: then they are the same if the other one is, too. -/
theorem eqN_one {is : AVal → (Bool → Nat) → Nat} {C : Bool → Value → Prop} (his : ∀ {x : AVal} {k : Bool → Nat}, is x k = 1 → ∃ b, k b = 1 ∧ ∀ ρ cx, VRel ρ x cx → C b cx) {x y : AVal} {k : Bool → Nat}
    (h : eqN is x y k = 1) : ∃ a b, (a || b) = true ∧ k (a && b) = 1 ∧ (∀ ρ cx, VRel ρ x cx → C a cx) ∧ ∀ ρ cx, VRel ρ y cx → C b cx := by
  obtain ⟨a, h_1, ha⟩ := his h
  obtain ⟨b, h_2, hb⟩ := his h_1
  rcases ifB_one h_2 with ⟨rfl, h_3⟩ | ⟨rfl, h_3⟩
  · exact ⟨true, b, rfl, h_3, ha, hb⟩
  · obtain ⟨rfl, h_4⟩ := ifB_true h_3 (by decide)
    exact ⟨false, true, rfl, h_4, ha, hb⟩

theorem ptr_eq {t e : TypeId} (ht : P.underlying t = some (.pointer e)) (w : World) (a b : Option Addr) (h : (a.isNone || b.isNone) = true) :
    (Op.equal t (.pointer a) (.pointer b)).run P w = .ok (a.isNone && b.isNone) w := by
  unfold Op.equal Op.maxDepth
  rw [show (10000 : Nat) = 9999 + 1 from rfl, Op.equalIn]
  cases a <;> cases b <;> simp_all [Sem.run_bind, run_und ht]
theorem sl_eq {t e : TypeId} (ht : P.underlying t = some (.slice e)) (w : World) (a b : Option Addr) (n c n' c' : Nat) (h : (a.isNone || b.isNone) = true) :
    (Op.equal t (.slice a n c) (.slice b n' c')).run P w = .ok (a.isNone && b.isNone) w := by
  unfold Op.equal Op.maxDepth
  rw [show (10000 : Nat) = 9999 + 1 from rfl, Op.equalIn]
  cases a <;> cases b <;> simp_all [Sem.run_bind, run_und ht]
theorem map_eq {t e f : TypeId} (ht : P.underlying t = some (.map e f)) (w : World) (a b : Option Nat) (h : (a.isNone || b.isNone) = true) :
    (Op.equal t (.map a) (.map b)).run P w = .ok (a.isNone && b.isNone) w := by
  unfold Op.equal Op.maxDepth
  rw [show (10000 : Nat) = 9999 + 1 from rfl, Op.equalIn]
  cases a <;> cases b <;> simp_all [Sem.run_bind, run_und ht]

theorem pEqP_ok {x y : AVal} {kv : KP} (h : pEqP x y kv = 1) {t e : TypeId} (ht : P.underlying t = some (.pointer e)) : ∃ v, kv v = 1 ∧ GivesP2 P (binOp .eql t) x y v := by
  obtain ⟨a, b, hab, h_1, ha, hb⟩ := eqN_one (C := fun b cx => ∃ a, cx = .pointer a ∧ a.isNone = b) nil1 h
  rw [kb_eq] at h_1
  refine ⟨_, h_1, fun w ρ cx cy rx ry => ?_⟩
  obtain ⟨p, rfl, hp⟩ := ha ρ cx rx
  obtain ⟨q, rfl, hq⟩ := hb ρ cy ry
  refine ⟨.bool (a && b), ?_, .bool _⟩
  subst hp hq
  simp only [binOp, Sem.run_bind, ptr_eq ht w p q hab, Result.andThen_ok, Sem.run_pure]
theorem pNeP_ok {x y : AVal} {kv : KP} (h : pNeP x y kv = 1) {t e : TypeId} (ht : P.underlying t = some (.pointer e)) : ∃ v, kv v = 1 ∧ GivesP2 P (binOp .neq t) x y v := by
  obtain ⟨a, b, hab, h_1, ha, hb⟩ := eqN_one (C := fun b cx => ∃ a, cx = .pointer a ∧ a.isNone = b) nil1 h
  rw [nkb_eq] at h_1
  refine ⟨_, h_1, fun w ρ cx cy rx ry => ?_⟩
  obtain ⟨p, rfl, hp⟩ := ha ρ cx rx
  obtain ⟨q, rfl, hq⟩ := hb ρ cy ry
  refine ⟨.bool (!(a && b)), ?_, .bool _⟩
  subst hp hq
  simp only [binOp, Sem.run_bind, ptr_eq ht w p q hab, Result.andThen_ok, Sem.run_pure]
theorem pEqSl_ok {x y : AVal} {kv : KP} (h : pEqSl x y kv = 1) {t e : TypeId} (ht : P.underlying t = some (.slice e)) : ∃ v, kv v = 1 ∧ GivesP2 P (binOp .eql t) x y v := by
  obtain ⟨a, b, hab, h_1, ha, hb⟩ := eqN_one (C := fun b cx => ∃ a n c, cx = .slice a n c ∧ a.isNone = b) nil2 h
  rw [kb_eq] at h_1
  refine ⟨_, h_1, fun w ρ cx cy rx ry => ?_⟩
  obtain ⟨p, _, _, rfl, hp⟩ := ha ρ cx rx
  obtain ⟨q, _, _, rfl, hq⟩ := hb ρ cy ry
  refine ⟨.bool (a && b), ?_, .bool _⟩
  subst hp hq
  simp only [binOp, Sem.run_bind, sl_eq ht w p q _ _ _ _ hab, Result.andThen_ok, Sem.run_pure]
theorem pNeSl_ok {x y : AVal} {kv : KP} (h : pNeSl x y kv = 1) {t e : TypeId} (ht : P.underlying t = some (.slice e)) : ∃ v, kv v = 1 ∧ GivesP2 P (binOp .neq t) x y v := by
  obtain ⟨a, b, hab, h_1, ha, hb⟩ := eqN_one (C := fun b cx => ∃ a n c, cx = .slice a n c ∧ a.isNone = b) nil2 h
  rw [nkb_eq] at h_1
  refine ⟨_, h_1, fun w ρ cx cy rx ry => ?_⟩
  obtain ⟨p, _, _, rfl, hp⟩ := ha ρ cx rx
  obtain ⟨q, _, _, rfl, hq⟩ := hb ρ cy ry
  refine ⟨.bool (!(a && b)), ?_, .bool _⟩
  subst hp hq
  simp only [binOp, Sem.run_bind, sl_eq ht w p q _ _ _ _ hab, Result.andThen_ok, Sem.run_pure]
theorem pEqM_ok {x y : AVal} {kv : KP} (h : pEqM x y kv = 1) {t e f : TypeId} (ht : P.underlying t = some (.map e f)) : ∃ v, kv v = 1 ∧ GivesP2 P (binOp .eql t) x y v := by
  obtain ⟨a, b, hab, h_1, ha, hb⟩ := eqN_one (C := fun b cx => ∃ a, cx = .map a ∧ a.isNone = b) nil3 h
  rw [kb_eq] at h_1
  refine ⟨_, h_1, fun w ρ cx cy rx ry => ?_⟩
  obtain ⟨p, rfl, hp⟩ := ha ρ cx rx
  obtain ⟨q, rfl, hq⟩ := hb ρ cy ry
  refine ⟨.bool (a && b), ?_, .bool _⟩
  subst hp hq
  simp only [binOp, Sem.run_bind, map_eq ht w p q hab, Result.andThen_ok, Sem.run_pure]
theorem pNeM_ok {x y : AVal} {kv : KP} (h : pNeM x y kv = 1) {t e f : TypeId} (ht : P.underlying t = some (.map e f)) : ∃ v, kv v = 1 ∧ GivesP2 P (binOp .neq t) x y v := by
  obtain ⟨a, b, hab, h_1, ha, hb⟩ := eqN_one (C := fun b cx => ∃ a, cx = .map a ∧ a.isNone = b) nil3 h
  rw [nkb_eq] at h_1
  refine ⟨_, h_1, fun w ρ cx cy rx ry => ?_⟩
  obtain ⟨p, rfl, hp⟩ := ha ρ cx rx
  obtain ⟨q, rfl, hq⟩ := hb ρ cy ry
  refine ⟨.bool (!(a && b)), ?_, .bool _⟩
  subst hp hq
  simp only [binOp, Sem.run_bind, map_eq ht w p q hab, Result.andThen_ok, Sem.run_pure]

end Go.Proofs.YtmgigdklcaepdaaGreatDoor.Ax
end

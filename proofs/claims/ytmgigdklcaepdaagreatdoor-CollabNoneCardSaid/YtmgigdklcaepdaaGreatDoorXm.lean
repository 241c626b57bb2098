/-
  Operations of two values. · Operations of two values, as a whole; other operations on values. · Other operations on values. · Other operations on values, on. · Slices, lookups, new blocks, stores. · Stores, map updates, append.
-/
import Derived.Test.YtmgigdklcaepdaaGreatDoorXl
set_option linter.unusedVariables false
set_option linter.unusedSimpArgs false
section
namespace Go.Proofs.YtmgigdklcaepdaaGreatDoor.Ax
set_option linter.unusedVariables false
set_option linter.unusedSimpArgs false

variable {P : Program} {T : Tab}

/-- No aggregate, no nil interface value. -/
def PlainV (v : AVal) : Prop := (∀ cs, v ≠ .z (.agg cs)) ∧ v ≠ .z (.cst 4)
theorem PlainV.rel {v : AVal} (h : PlainV v) {ρ : Ren} {cv : Value} (r : VRel ρ v cv) : (∀ xs, cv ≠ .agg xs) ∧ cv ≠ .nilIface := by
  constructor
  · intro xs e; subst e; cases r; exact h.1 _ rfl
  · intro e; subst e; cases r; exact h.2 rfl
theorem bin_plain {gl : Fixed} {sc : Sc} {o : Oper} {op : BinOp} {t yt : TypeId} {x y : Operand} {v u : AVal} {f : KP → Nat} (ho : o.op = .binOp op t x y yt) (hv : opd sc x = some v) (hu : opd sc y = some u)
    (h : ∀ kv, f kv = 1 → PlainV v ∧ ∃ r, kv r = 1 ∧ GivesP2 P (binOp op t) v u r) : PrimOk P gl sc o (.val f) := by
  refine bin_val ho hv hu fun kv hk => ?_
  obtain ⟨hp, r, h1, h2⟩ := h kv hk
  refine ⟨r, h1, fun w ρ cx cy rx ry => ⟨.inl fun e => (hp.rel rx).2 e.1, fun ⟨xs, ys, e, _⟩ => absurd e ((hp.rel rx).1 xs), h2 w ρ cx cy rx ry⟩⟩

theorem plain_of {v : AVal} {k : Nat} (h1 : ∀ cs, v = .z (.agg cs) → k ≠ 1) (h2 : v = .z (.cst 4) → k ≠ 1) (h : k = 1) : PlainV v := ⟨fun cs e => h1 cs e h, fun e => h2 e h⟩

theorem gives_all {s : Value → Value → Sem Value} {x y v : AVal} (h : Gives2 s x y v) : GivesP2 P s x y v := fun w ρ cx cy rx ry => h P w ρ cx cy rx ry

theorem bin_pAdd {gl : Fixed} {sc : Sc} {o : Oper} {t yt : TypeId} {x y : Operand} {v u : AVal} (ho : o.op = .binOp .add t x y yt) (hv : opd sc x = some v) (hu : opd sc y = some u) : PrimOk P gl sc o (.val (pAdd v u)) :=
  bin_plain ho hv hu fun kv h => ⟨plain_of (k := pAdd v u kv) (fun cs e q => by subst e; cases q) (fun e q => by subst e; cases q) h, let ⟨r, h1, h2⟩ := pAdd_ok h t; ⟨r, h1, gives_all h2⟩⟩
theorem bin_pSub {gl : Fixed} {sc : Sc} {o : Oper} {t yt : TypeId} {x y : Operand} {v u : AVal} (ho : o.op = .binOp .sub t x y yt) (hv : opd sc x = some v) (hu : opd sc y = some u) : PrimOk P gl sc o (.val (pSub v u)) :=
  bin_plain ho hv hu fun kv h => ⟨plain_of (k := pSub v u kv) (fun cs e q => by subst e; cases q) (fun e q => by subst e; cases q) h, let ⟨r, h1, h2⟩ := pSub_ok h t; ⟨r, h1, gives_all h2⟩⟩
theorem bin_pMul {gl : Fixed} {sc : Sc} {o : Oper} {t yt : TypeId} {x y : Operand} {v u : AVal} (ho : o.op = .binOp .mul t x y yt) (hv : opd sc x = some v) (hu : opd sc y = some u) : PrimOk P gl sc o (.val (pMul v u)) :=
  bin_plain ho hv hu fun kv h => ⟨plain_of (k := pMul v u kv) (fun cs e q => by subst e; cases q) (fun e q => by subst e; cases q) h, let ⟨r, h1, h2⟩ := pMul_ok h t; ⟨r, h1, gives_all h2⟩⟩
theorem bin_pQuo {gl : Fixed} {sc : Sc} {o : Oper} {t yt : TypeId} {x y : Operand} {v u : AVal} (ho : o.op = .binOp .quo t x y yt) (hv : opd sc x = some v) (hu : opd sc y = some u) : PrimOk P gl sc o (.val (pQuo v u)) :=
  bin_plain ho hv hu fun kv h => ⟨plain_of (k := pQuo v u kv) (fun cs e q => by subst e; cases q) (fun e q => by subst e; cases q) h, let ⟨r, h1, h2⟩ := pQuo_ok h t; ⟨r, h1, gives_all h2⟩⟩
theorem bin_pRem {gl : Fixed} {sc : Sc} {o : Oper} {t yt : TypeId} {x y : Operand} {v u : AVal} (ho : o.op = .binOp .rem t x y yt) (hv : opd sc x = some v) (hu : opd sc y = some u) : PrimOk P gl sc o (.val (pRem v u)) :=
  bin_plain ho hv hu fun kv h => ⟨plain_of (k := pRem v u kv) (fun cs e q => by subst e; cases q) (fun e q => by subst e; cases q) h, let ⟨r, h1, h2⟩ := pRem_ok h t; ⟨r, h1, gives_all h2⟩⟩
theorem bin_pAnd {gl : Fixed} {sc : Sc} {o : Oper} {t yt : TypeId} {x y : Operand} {v u : AVal} (ho : o.op = .binOp .and t x y yt) (hv : opd sc x = some v) (hu : opd sc y = some u) : PrimOk P gl sc o (.val (pAnd v u)) :=
  bin_plain ho hv hu fun kv h => ⟨plain_of (k := pAnd v u kv) (fun cs e q => by subst e; cases q) (fun e q => by subst e; cases q) h, let ⟨r, h1, h2⟩ := pAnd_ok h t; ⟨r, h1, gives_all h2⟩⟩
theorem bin_pOr {gl : Fixed} {sc : Sc} {o : Oper} {t yt : TypeId} {x y : Operand} {v u : AVal} (ho : o.op = .binOp .or t x y yt) (hv : opd sc x = some v) (hu : opd sc y = some u) : PrimOk P gl sc o (.val (pOr v u)) :=
  bin_plain ho hv hu fun kv h => ⟨plain_of (k := pOr v u kv) (fun cs e q => by subst e; cases q) (fun e q => by subst e; cases q) h, let ⟨r, h1, h2⟩ := pOr_ok h t; ⟨r, h1, gives_all h2⟩⟩
theorem bin_pXor {gl : Fixed} {sc : Sc} {o : Oper} {t yt : TypeId} {x y : Operand} {v u : AVal} (ho : o.op = .binOp .xor t x y yt) (hv : opd sc x = some v) (hu : opd sc y = some u) : PrimOk P gl sc o (.val (pXor v u)) :=
  bin_plain ho hv hu fun kv h => ⟨plain_of (k := pXor v u kv) (fun cs e q => by subst e; cases q) (fun e q => by subst e; cases q) h, let ⟨r, h1, h2⟩ := pXor_ok h t; ⟨r, h1, gives_all h2⟩⟩
theorem bin_pShl {gl : Fixed} {sc : Sc} {o : Oper} {t yt : TypeId} {x y : Operand} {v u : AVal} (ho : o.op = .binOp .shl t x y yt) (hv : opd sc x = some v) (hu : opd sc y = some u) : PrimOk P gl sc o (.val (pShl v u)) :=
  bin_plain ho hv hu fun kv h => ⟨plain_of (k := pShl v u kv) (fun cs e q => by subst e; cases q) (fun e q => by subst e; cases q) h, let ⟨r, h1, h2⟩ := pShl_ok h t; ⟨r, h1, gives_all h2⟩⟩
theorem bin_pShr {gl : Fixed} {sc : Sc} {o : Oper} {t yt : TypeId} {x y : Operand} {v u : AVal} (ho : o.op = .binOp .shr t x y yt) (hv : opd sc x = some v) (hu : opd sc y = some u) : PrimOk P gl sc o (.val (pShr v u)) :=
  bin_plain ho hv hu fun kv h => ⟨plain_of (k := pShr v u kv) (fun cs e q => by subst e; cases q) (fun e q => by subst e; cases q) h, let ⟨r, h1, h2⟩ := pShr_ok h t; ⟨r, h1, gives_all h2⟩⟩
theorem bin_pLt {gl : Fixed} {sc : Sc} {o : Oper} {t yt : TypeId} {x y : Operand} {v u : AVal} (ho : o.op = .binOp .lss t x y yt) (hv : opd sc x = some v) (hu : opd sc y = some u) : PrimOk P gl sc o (.val (pLt v u)) :=
  bin_plain ho hv hu fun kv h => ⟨plain_of (k := pLt v u kv) (fun cs e q => by subst e; cases q) (fun e q => by subst e; cases q) h, let ⟨r, h1, h2⟩ := pLt_ok h t; ⟨r, h1, gives_all h2⟩⟩
theorem bin_pLe {gl : Fixed} {sc : Sc} {o : Oper} {t yt : TypeId} {x y : Operand} {v u : AVal} (ho : o.op = .binOp .leq t x y yt) (hv : opd sc x = some v) (hu : opd sc y = some u) : PrimOk P gl sc o (.val (pLe v u)) :=
  bin_plain ho hv hu fun kv h => ⟨plain_of (k := pLe v u kv) (fun cs e q => by subst e; cases q) (fun e q => by subst e; cases q) h, let ⟨r, h1, h2⟩ := pLe_ok h t; ⟨r, h1, gives_all h2⟩⟩
theorem bin_pGt {gl : Fixed} {sc : Sc} {o : Oper} {t yt : TypeId} {x y : Operand} {v u : AVal} (ho : o.op = .binOp .gtr t x y yt) (hv : opd sc x = some v) (hu : opd sc y = some u) : PrimOk P gl sc o (.val (pGt v u)) :=
  bin_plain ho hv hu fun kv h => ⟨plain_of (k := pGt v u kv) (fun cs e q => by subst e; cases q) (fun e q => by subst e; cases q) h, let ⟨r, h1, h2⟩ := pGt_ok h t; ⟨r, h1, gives_all h2⟩⟩
theorem bin_pGe {gl : Fixed} {sc : Sc} {o : Oper} {t yt : TypeId} {x y : Operand} {v u : AVal} (ho : o.op = .binOp .geq t x y yt) (hv : opd sc x = some v) (hu : opd sc y = some u) : PrimOk P gl sc o (.val (pGe v u)) :=
  bin_plain ho hv hu fun kv h => ⟨plain_of (k := pGe v u kv) (fun cs e q => by subst e; cases q) (fun e q => by subst e; cases q) h, let ⟨r, h1, h2⟩ := pGe_ok h t; ⟨r, h1, gives_all h2⟩⟩
theorem bin_pEqI {gl : Fixed} {sc : Sc} {o : Oper} {t yt : TypeId} {x y : Operand} {v u : AVal} (ho : o.op = .binOp .eql t x y yt) (hv : opd sc x = some v) (hu : opd sc y = some u) : PrimOk P gl sc o (.val (pEqI v u)) :=
  bin_plain ho hv hu fun kv h => ⟨plain_of (k := pEqI v u kv) (fun cs e q => by subst e; cases q) (fun e q => by subst e; cases q) h, let ⟨r, h1, h2⟩ := pEqI_ok h t; ⟨r, h1, gives_all h2⟩⟩
theorem bin_pNeI {gl : Fixed} {sc : Sc} {o : Oper} {t yt : TypeId} {x y : Operand} {v u : AVal} (ho : o.op = .binOp .neq t x y yt) (hv : opd sc x = some v) (hu : opd sc y = some u) : PrimOk P gl sc o (.val (pNeI v u)) :=
  bin_plain ho hv hu fun kv h => ⟨plain_of (k := pNeI v u kv) (fun cs e q => by subst e; cases q) (fun e q => by subst e; cases q) h, let ⟨r, h1, h2⟩ := pNeI_ok h t; ⟨r, h1, gives_all h2⟩⟩
theorem bin_pCat {gl : Fixed} {sc : Sc} {o : Oper} {t yt : TypeId} {x y : Operand} {v u : AVal} (ho : o.op = .binOp .add t x y yt) (hv : opd sc x = some v) (hu : opd sc y = some u) : PrimOk P gl sc o (.val (pCat v u)) :=
  bin_plain ho hv hu fun kv h => ⟨plain_of (k := pCat v u kv) (fun cs e q => by subst e; cases q) (fun e q => by subst e; cases q) h, let ⟨r, h1, h2⟩ := pCat_ok h t; ⟨r, h1, gives_all h2⟩⟩
theorem bin_pLtS {gl : Fixed} {sc : Sc} {o : Oper} {t yt : TypeId} {x y : Operand} {v u : AVal} (ho : o.op = .binOp .lss t x y yt) (hv : opd sc x = some v) (hu : opd sc y = some u) : PrimOk P gl sc o (.val (pLtS v u)) :=
  bin_plain ho hv hu fun kv h => ⟨plain_of (k := pLtS v u kv) (fun cs e q => by subst e; cases q) (fun e q => by subst e; cases q) h, let ⟨r, h1, h2⟩ := pLtS_ok h t; ⟨r, h1, gives_all h2⟩⟩
theorem bin_pGtS {gl : Fixed} {sc : Sc} {o : Oper} {t yt : TypeId} {x y : Operand} {v u : AVal} (ho : o.op = .binOp .gtr t x y yt) (hv : opd sc x = some v) (hu : opd sc y = some u) : PrimOk P gl sc o (.val (pGtS v u)) :=
  bin_plain ho hv hu fun kv h => ⟨plain_of (k := pGtS v u kv) (fun cs e q => by subst e; cases q) (fun e q => by subst e; cases q) h, let ⟨r, h1, h2⟩ := pGtS_ok h t; ⟨r, h1, gives_all h2⟩⟩
theorem bin_pEqS {gl : Fixed} {sc : Sc} {o : Oper} {t yt : TypeId} {x y : Operand} {v u : AVal} (ho : o.op = .binOp .eql t x y yt) (hv : opd sc x = some v) (hu : opd sc y = some u) : PrimOk P gl sc o (.val (pEqS v u)) :=
  bin_plain ho hv hu fun kv h => ⟨plain_of (k := pEqS v u kv) (fun cs e q => by subst e; cases q) (fun e q => by subst e; cases q) h, let ⟨r, h1, h2⟩ := pEqS_ok h t; ⟨r, h1, gives_all h2⟩⟩
theorem bin_pNeS {gl : Fixed} {sc : Sc} {o : Oper} {t yt : TypeId} {x y : Operand} {v u : AVal} (ho : o.op = .binOp .neq t x y yt) (hv : opd sc x = some v) (hu : opd sc y = some u) : PrimOk P gl sc o (.val (pNeS v u)) :=
  bin_plain ho hv hu fun kv h => ⟨plain_of (k := pNeS v u kv) (fun cs e q => by subst e; cases q) (fun e q => by subst e; cases q) h, let ⟨r, h1, h2⟩ := pNeS_ok h t; ⟨r, h1, gives_all h2⟩⟩
theorem bin_pEqC {gl : Fixed} {sc : Sc} {o : Oper} {t yt : TypeId} {x y : Operand} {v u : AVal} (ht : P.underlying t = some .bool) (ho : o.op = .binOp .eql t x y yt) (hv : opd sc x = some v) (hu : opd sc y = some u) : PrimOk P gl sc o (.val (pEqC v u)) :=
  bin_plain ho hv hu fun kv h => ⟨plain_of (k := pEqC v u kv) (fun cs e q => by subst e; cases q) (fun e q => by subst e; cases q) h, pEqC_ok h ht⟩
theorem bin_pNeC {gl : Fixed} {sc : Sc} {o : Oper} {t yt : TypeId} {x y : Operand} {v u : AVal} (ht : P.underlying t = some .bool) (ho : o.op = .binOp .neq t x y yt) (hv : opd sc x = some v) (hu : opd sc y = some u) : PrimOk P gl sc o (.val (pNeC v u)) :=
  bin_plain ho hv hu fun kv h => ⟨plain_of (k := pNeC v u kv) (fun cs e q => by subst e; cases q) (fun e q => by subst e; cases q) h, pNeC_ok h ht⟩
theorem bin_pEqP {gl : Fixed} {sc : Sc} {o : Oper} {t yt : TypeId} {e : TypeId} {x y : Operand} {v u : AVal} (ht : P.underlying t = some (.pointer e)) (ho : o.op = .binOp .eql t x y yt) (hv : opd sc x = some v) (hu : opd sc y = some u) : PrimOk P gl sc o (.val (pEqP v u)) :=
  bin_plain ho hv hu fun kv h => ⟨plain_of (k := pEqP v u kv) (fun cs e q => by subst e; cases q) (fun e q => by subst e; cases q) h, pEqP_ok h ht⟩
theorem bin_pNeP {gl : Fixed} {sc : Sc} {o : Oper} {t yt : TypeId} {e : TypeId} {x y : Operand} {v u : AVal} (ht : P.underlying t = some (.pointer e)) (ho : o.op = .binOp .neq t x y yt) (hv : opd sc x = some v) (hu : opd sc y = some u) : PrimOk P gl sc o (.val (pNeP v u)) :=
  bin_plain ho hv hu fun kv h => ⟨plain_of (k := pNeP v u kv) (fun cs e q => by subst e; cases q) (fun e q => by subst e; cases q) h, pNeP_ok h ht⟩
theorem bin_pEqSl {gl : Fixed} {sc : Sc} {o : Oper} {t yt : TypeId} {e : TypeId} {x y : Operand} {v u : AVal} (ht : P.underlying t = some (.slice e)) (ho : o.op = .binOp .eql t x y yt) (hv : opd sc x = some v) (hu : opd sc y = some u) : PrimOk P gl sc o (.val (pEqSl v u)) :=
  bin_plain ho hv hu fun kv h => ⟨plain_of (k := pEqSl v u kv) (fun cs e q => by subst e; cases q) (fun e q => by subst e; cases q) h, pEqSl_ok h ht⟩
theorem bin_pNeSl {gl : Fixed} {sc : Sc} {o : Oper} {t yt : TypeId} {e : TypeId} {x y : Operand} {v u : AVal} (ht : P.underlying t = some (.slice e)) (ho : o.op = .binOp .neq t x y yt) (hv : opd sc x = some v) (hu : opd sc y = some u) : PrimOk P gl sc o (.val (pNeSl v u)) :=
  bin_plain ho hv hu fun kv h => ⟨plain_of (k := pNeSl v u kv) (fun cs e q => by subst e; cases q) (fun e q => by subst e; cases q) h, pNeSl_ok h ht⟩
theorem bin_pEqM {gl : Fixed} {sc : Sc} {o : Oper} {t yt : TypeId} {k e : TypeId} {x y : Operand} {v u : AVal} (ht : P.underlying t = some (.map k e)) (ho : o.op = .binOp .eql t x y yt) (hv : opd sc x = some v) (hu : opd sc y = some u) : PrimOk P gl sc o (.val (pEqM v u)) :=
  bin_plain ho hv hu fun kv h => ⟨plain_of (k := pEqM v u kv) (fun cs e q => by subst e; cases q) (fun e q => by subst e; cases q) h, pEqM_ok h ht⟩
theorem bin_pNeM {gl : Fixed} {sc : Sc} {o : Oper} {t yt : TypeId} {k e : TypeId} {x y : Operand} {v u : AVal} (ht : P.underlying t = some (.map k e)) (ho : o.op = .binOp .neq t x y yt) (hv : opd sc x = some v) (hu : opd sc y = some u) : PrimOk P gl sc o (.val (pNeM v u)) :=
  bin_plain ho hv hu fun kv h => ⟨plain_of (k := pNeM v u kv) (fun cs e q => by subst e; cases q) (fun e q => by subst e; cases q) h, pNeM_ok h ht⟩

end Go.Proofs.YtmgigdklcaepdaaGreatDoor.Ax
end
section
namespace Go.Proofs.YtmgigdklcaepdaaGreatDoor.Ax
set_option linter.unusedVariables false
set_option linter.unusedSimpArgs false

variable {P : Program} {T : Tab}

theorem TabOk.kinds (h : TabOk P T) {fs : List Field} : ∀ {j : Nat} {ks : List Nat}, T.kinds fs j = some ks → FlatS P fs ks j := by
  induction fs with
  | nil => intro j ks hk; simp [Tab.kinds] at hk; subst hk; trivial
  | cons f fs ih =>
    intro j ks hk
    unfold Tab.kinds at hk
    split at hk
    · rename_i hc
      split at hk
      · rename_i k ks' h1 h2
        injection hk with hk; subst hk
        cases hd : T.und f.type with
        | none => simp [hd] at h1
        | some d => simp [hd] at h1; exact ⟨hc.1, hc.2, ⟨d, h.und hd, h1⟩, ih h2⟩
      · cases hk
    · cases hk

theorem bin_pEqA {gl : Fixed} {sc : Sc} {o : Oper} {t yt : TypeId} {fs : Array Field} {ks : List Nat} {x y : Operand} {v u : AVal} (h : TabOk P T) (he : T.eq.contains t = true) (ht : P.underlying t = some (.struct fs)) (hk : T.kinds fs.toList 0 = some ks)
    (ho : o.op = .binOp .eql t x y yt) (hv : opd sc x = some v) (hu : opd sc y = some u) : PrimOk P gl sc o (.val (pEqA ks v u)) :=
  bin_val ho hv hu fun kv hp => by
    obtain ⟨r, h1, h2⟩ := pEqA_ok hp ht (h.kinds hk) (h.eq t he).1
    refine ⟨r, h1, fun w ρ cx cy rx ry => ?_⟩
    obtain ⟨xs, ys, cv, rfl, rfl, h3, h4⟩ := h2 w ρ cx cy rx ry
    exact ⟨.inl (fun e => by cases e.1), fun _ => (h.eq t he).2, cv, h3, h4⟩
theorem bin_pNeA {gl : Fixed} {sc : Sc} {o : Oper} {t yt : TypeId} {fs : Array Field} {ks : List Nat} {x y : Operand} {v u : AVal} (h : TabOk P T) (he : T.eq.contains t = true) (ht : P.underlying t = some (.struct fs)) (hk : T.kinds fs.toList 0 = some ks)
    (ho : o.op = .binOp .neq t x y yt) (hv : opd sc x = some v) (hu : opd sc y = some u) : PrimOk P gl sc o (.val (pNeA ks v u)) :=
  bin_val ho hv hu fun kv hp => by
    obtain ⟨r, h1, h2⟩ := pNeA_ok hp ht (h.kinds hk) (h.eq t he).1
    refine ⟨r, h1, fun w ρ cx cy rx ry => ?_⟩
    obtain ⟨xs, ys, cv, rfl, rfl, h3, h4⟩ := h2 w ρ cx cy rx ry
    exact ⟨.inl (fun e => by cases e.1), fun _ => (h.eq t he).2, cv, h3, h4⟩
theorem isIf_noAgg {x : AVal} {k : Bool → Nat} (h : isIf0 x k = 1) : ∀ cs, x ≠ .z (.agg cs) := fun cs e => by subst e; cases h
theorem bin_pEqIf {gl : Fixed} {sc : Sc} {o : Oper} {t yt : TypeId} {ms : Array (String × TypeId)} {x y : Operand} {v u : AVal} (ht : P.underlying t = some (.interface ms)) (hn : (isNilIf x || isNilIf y) = true)
    (ho : o.op = .binOp .eql t x y yt) (hv : opd sc x = some v) (hu : opd sc y = some u) : PrimOk P gl sc o (.val (pEqIf v u)) :=
  bin_val ho hv hu fun kv hp => by
    obtain ⟨r, h1, h2⟩ := pEqIf_ok hp ht
    refine ⟨r, h1, fun w ρ cx cy rx ry => ⟨.inr (by simpa using hn), fun ⟨xs, ys, e, _⟩ => ?_, h2 w ρ cx cy rx ry⟩⟩
    subst e
    cases rx
    cases hp
theorem bin_pNeIf {gl : Fixed} {sc : Sc} {o : Oper} {t yt : TypeId} {ms : Array (String × TypeId)} {x y : Operand} {v u : AVal} (ht : P.underlying t = some (.interface ms)) (hn : (isNilIf x || isNilIf y) = true)
    (ho : o.op = .binOp .neq t x y yt) (hv : opd sc x = some v) (hu : opd sc y = some u) : PrimOk P gl sc o (.val (pNeIf v u)) :=
  bin_val ho hv hu fun kv hp => by
    obtain ⟨r, h1, h2⟩ := pNeIf_ok hp ht
    refine ⟨r, h1, fun w ρ cx cy rx ry => ⟨.inr (by simpa using hn), fun ⟨xs, ys, e, _⟩ => ?_, h2 w ρ cx cy rx ry⟩⟩
    subst e
    cases rx
    cases hp

theorem bin_ok {gl : Fixed} (h : TabOk P T) {sc : Sc} {o : Oper} {op : BinOp} {t yt : TypeId} {x y : Operand} (ho : o.op = .binOp op t x y yt) :
    PrimOk P gl sc o (orBad (binPrim T op t x y) fun p => den2 sc x y fun x y => .val (p x y)) := by
  refine primOk_o fun p hp => primOk_2 fun v u hv hu => ?_
  unfold binPrim at hp
  cases hd : T.und t with
  | none => simp [hd] at hp
  | some d =>
    have ht := h.und hd
    simp only [hd] at hp
    cases d with
    | int k =>
      cases op with
      | add => injection hp with hp; subst hp; exact bin_pAdd ho hv hu
      | sub => injection hp with hp; subst hp; exact bin_pSub ho hv hu
      | mul => injection hp with hp; subst hp; exact bin_pMul ho hv hu
      | quo => injection hp with hp; subst hp; exact bin_pQuo ho hv hu
      | rem => injection hp with hp; subst hp; exact bin_pRem ho hv hu
      | and => injection hp with hp; subst hp; exact bin_pAnd ho hv hu
      | or => injection hp with hp; subst hp; exact bin_pOr ho hv hu
      | xor => injection hp with hp; subst hp; exact bin_pXor ho hv hu
      | shl => injection hp with hp; subst hp; exact bin_pShl ho hv hu
      | shr => injection hp with hp; subst hp; exact bin_pShr ho hv hu
      | lss => injection hp with hp; subst hp; exact bin_pLt ho hv hu
      | leq => injection hp with hp; subst hp; exact bin_pLe ho hv hu
      | gtr => injection hp with hp; subst hp; exact bin_pGt ho hv hu
      | geq => injection hp with hp; subst hp; exact bin_pGe ho hv hu
      | eql => injection hp with hp; subst hp; exact bin_pEqI ho hv hu
      | neq => injection hp with hp; subst hp; exact bin_pNeI ho hv hu
      | _ => cases hp
    | string =>
      cases op with
      | add => injection hp with hp; subst hp; exact bin_pCat ho hv hu
      | lss => injection hp with hp; subst hp; exact bin_pLtS ho hv hu
      | gtr => injection hp with hp; subst hp; exact bin_pGtS ho hv hu
      | eql => injection hp with hp; subst hp; exact bin_pEqS ho hv hu
      | neq => injection hp with hp; subst hp; exact bin_pNeS ho hv hu
      | _ => cases hp
    | bool =>
      cases op with
      | eql => injection hp with hp; subst hp; exact bin_pEqC ht ho hv hu
      | neq => injection hp with hp; subst hp; exact bin_pNeC ht ho hv hu
      | _ => cases hp
    | pointer e =>
      cases op with
      | eql => injection hp with hp; subst hp; exact bin_pEqP ht ho hv hu
      | neq => injection hp with hp; subst hp; exact bin_pNeP ht ho hv hu
      | _ => cases hp
    | slice e =>
      cases op with
      | eql => injection hp with hp; subst hp; exact bin_pEqSl ht ho hv hu
      | neq => injection hp with hp; subst hp; exact bin_pNeSl ht ho hv hu
      | _ => cases hp
    | map k e =>
      cases op with
      | eql => injection hp with hp; subst hp; exact bin_pEqM ht ho hv hu
      | neq => injection hp with hp; subst hp; exact bin_pNeM ht ho hv hu
      | _ => cases hp
    | interface ms =>
      dsimp only at hp
      by_cases hn : (isNilIf x || isNilIf y) = true
      · rw [if_pos hn] at hp
        cases op with
        | eql => injection hp with hp; subst hp; exact bin_pEqIf ht hn ho hv hu
        | neq => injection hp with hp; subst hp; exact bin_pNeIf ht hn ho hv hu
        | _ => cases hp
      · rw [if_neg hn] at hp; cases hp
    | struct fs =>
      dsimp only at hp
      by_cases he : T.eq.contains t = true
      · rw [if_pos he] at hp
        cases hk : T.kinds fs.toList 0 with
        | none => simp [hk] at hp
        | some ks =>
          simp only [hk] at hp
          cases op with
          | eql => injection hp with hp; subst hp; exact bin_pEqA h he ht hk ho hv hu
          | neq => injection hp with hp; subst hp; exact bin_pNeA h he ht hk ho hv hu
          | _ => cases hp
      · rw [if_neg he] at hp; cases hp
    | _ => simp at hp

end Go.Proofs.YtmgigdklcaepdaaGreatDoor.Ax
end
section
namespace Go.Proofs.YtmgigdklcaepdaaGreatDoor.Ax
set_option linter.unusedVariables false
set_option linter.unusedSimpArgs false

variable {P : Program} {T : Tab}

/-- An operation that is one of the model's on one value. -/
theorem val_1 {gl : Fixed} {sc : Sc} {o : Oper} {x : Operand} {v : AVal} {f : KP → Nat} {s : Value → Sem Value} (hs : ∀ ρ : Operand → Value, execOp ρ o = (do pure (Next.value (← s (ρ x))))) (hv : opd sc x = some v)
    (h : ∀ kv, f kv = 1 → ∃ r, kv r = 1 ∧ GivesP1 P s v r) : PrimOk P gl sc o (.val f) := by
  intro kv hk
  obtain ⟨r, h1, h2⟩ := h kv hk
  refine ⟨r, h1, fun w ρ a ht => ?_⟩
  obtain ⟨cv, g3, g4⟩ := h2 w ρ _ (opd_ok ht hv)
  exact ⟨cv, by rw [hs]; simp only [Sem.run_bind, g3, Result.andThen_ok, Sem.run_pure], g4⟩
theorem val_2 {gl : Fixed} {sc : Sc} {o : Oper} {x y : Operand} {v u : AVal} {f : KP → Nat} {s : Value → Value → Sem Value} (hs : ∀ ρ : Operand → Value, execOp ρ o = (do pure (Next.value (← s (ρ x) (ρ y))))) (hv : opd sc x = some v) (hu : opd sc y = some u)
    (h : ∀ kv, f kv = 1 → ∃ r, kv r = 1 ∧ GivesP2 P s v u r) : PrimOk P gl sc o (.val f) := by
  intro kv hk
  obtain ⟨r, h1, h2⟩ := h kv hk
  refine ⟨r, h1, fun w ρ a ht => ?_⟩
  obtain ⟨cv, g3, g4⟩ := h2 w ρ _ _ (opd_ok ht hv) (opd_ok ht hu)
  exact ⟨cv, by rw [hs]; simp only [Sem.run_bind, g3, Result.andThen_ok, Sem.run_pure], g4⟩
theorem read_1 {gl : Fixed} {sc : Sc} {o : Oper} {x : Operand} {v : AVal} {f : Heap → KP → Nat} {s : Value → Sem Value} (hs : ∀ ρ : Operand → Value, execOp ρ o = (do pure (Next.value (← s (ρ x))))) (hv : opd sc x = some v)
    (h : ∀ H kv, f H kv = 1 → ∃ r, kv r = 1 ∧ Reads P gl H s v r) : PrimOk P gl sc o (.read f) := by
  intro H kv hk
  obtain ⟨r, h1, h2⟩ := h H kv hk
  refine ⟨r, h1, fun w ρ a hr ht => ?_⟩
  obtain ⟨cv, g3, g4⟩ := h2 w ρ _ hr (opd_ok ht hv)
  exact ⟨cv, by rw [hs]; simp only [Sem.run_bind, g3, Result.andThen_ok, Sem.run_pure], g4⟩
theorem read_2 {gl : Fixed} {sc : Sc} {o : Oper} {x y : Operand} {v u : AVal} {f : Heap → KP → Nat} {s : Value → Value → Sem Value} (hs : ∀ ρ : Operand → Value, execOp ρ o = (do pure (Next.value (← s (ρ x) (ρ y))))) (hv : opd sc x = some v) (hu : opd sc y = some u)
    (h : ∀ H kv, f H kv = 1 → ∃ r, kv r = 1 ∧ Reads2 P gl H s v u r) : PrimOk P gl sc o (.read f) := by
  intro H kv hk
  obtain ⟨r, h1, h2⟩ := h H kv hk
  refine ⟨r, h1, fun w ρ a hr ht => ?_⟩
  obtain ⟨cv, g3, g4⟩ := h2 w ρ _ _ hr (opd_ok ht hv) (opd_ok ht hu)
  exact ⟨cv, by rw [hs]; simp only [Sem.run_bind, g3, Result.andThen_ok, Sem.run_pure], g4⟩

theorem ok_fieldAddr {gl : Fixed} (h : TabOk P T) {sc : Sc} {o : Oper} {s : TypeId} {x : Operand} {f : Nat} {v : AVal} {fs : Array Field} {fl : Field} (ho : o.op = .fieldAddr s x f) (hv : opd sc x = some v) (ht : P.underlying s = some (.struct fs)) (hf : fs[f]? = some fl)
    {i : TypeInfo} (hi : P.info? fl.type = some i) (hz : i.size ≠ 0) : PrimOk P gl sc o (.val (pFieldAddr fl.offset v)) :=
  val_1 (s := fun x => Instr.fieldAt s x f) (fun ρ => by simp only [execOp, ho]) hv fun kv hk => pFieldAddr_ok hk ht hf rfl hi hz
theorem ok_extract {gl : Fixed} {sc : Sc} {o : Oper} {x : Operand} {i : Nat} {v : AVal} (ho : o.op = .extract x i) (hv : opd sc x = some v) : PrimOk P gl sc o (.val (pExtract i v)) :=
  val_1 (s := fun x => Instr.extract x i) (fun ρ => by simp only [execOp, ho]) hv fun kv hk => pExtract_ok hk
theorem ok_move {gl : Fixed} {sc : Sc} {o : Oper} {x : Operand} {v : AVal} (ho : o.op = .move x ∨ o.op = .assign x) (hv : opd sc x = some v) : PrimOk P gl sc o (.mv v) := by
  intro w ρ a ht
  refine ⟨a.eval x, ?_, opd_ok ht hv⟩
  rcases ho with ho | ho <;> simp only [execOp, ho, Sem.run_pure]
theorem ok_load {gl : Fixed} {G : Glob} (hG : GOk gl G) {sc : Sc} {o : Oper} {t : TypeId} {x : Operand} {v : AVal} {d : TypeDesc} (ho : o.op = .load t x) (hv : opd sc x = some v) (ht : P.underlying t = some d) (hd : isAggD d = false) : PrimOk P gl sc o (.read fun H kv => pLoad G v H kv) :=
  read_1 (s := Instr.loadAt t) (fun ρ => by simp only [execOp, ho]) hv fun H kv hk => pLoad_ok hk hG ht hd
theorem ok_loadN {gl : Fixed} {sc : Sc} {o : Oper} {t : TypeId} {x : Operand} {v : AVal} {d : TypeDesc} {i : TypeInfo} {n : Nat} (ho : o.op = .load t x) (hv : opd sc x = some v) (ht : P.underlying t = some d) (hd : isAggD d = true) (hi : P.info? t = some i) (hz : i.size = n) : PrimOk P gl sc o (.read fun H kv => pLoadN n v H kv) :=
  read_1 (s := Instr.loadAt t) (fun ρ => by simp only [execOp, ho]) hv fun H kv hk => pLoadN_ok hk ht hd hi hz

end Go.Proofs.YtmgigdklcaepdaaGreatDoor.Ax
end
section
namespace Go.Proofs.YtmgigdklcaepdaaGreatDoor.Ax
set_option linter.unusedVariables false
set_option linter.unusedSimpArgs false

variable {P : Program} {T : Tab}

theorem gives_all1 {s : Value → Sem Value} {x v : AVal} (h : Gives1 s x v) : GivesP1 P s x v := fun w ρ cx rx => h P w ρ cx rx
theorem ok_not {gl : Fixed} {sc : Sc} {o : Oper} {t : TypeId} {x : Operand} {v : AVal} (ho : o.op = .unOp .not t x) (hv : opd sc x = some v) : PrimOk P gl sc o (.val (pNot v)) :=
  val_1 (s := Op.unary .not) (fun ρ => by simp only [execOp, ho]) hv fun kv hk => let ⟨r, a, b⟩ := pNot_ok hk; ⟨r, a, gives_all1 b⟩
theorem ok_neg {gl : Fixed} {sc : Sc} {o : Oper} {t : TypeId} {x : Operand} {v : AVal} (ho : o.op = .unOp .neg t x) (hv : opd sc x = some v) : PrimOk P gl sc o (.val (pNeg v)) :=
  val_1 (s := Op.unary .neg) (fun ρ => by simp only [execOp, ho]) hv fun kv hk => let ⟨r, a, b⟩ := pNeg_ok hk; ⟨r, a, gives_all1 b⟩
theorem ok_index {gl : Fixed} {sc : Sc} {o : Oper} {t : TypeId} {x y : Operand} {v u : AVal} (ho : o.op = .index t x y) (ht : P.underlying t = some .string) (hv : opd sc x = some v) (hu : opd sc y = some u) : PrimOk P gl sc o (.val (pIndexStr v u)) :=
  val_2 (s := Instr.index t) (fun ρ => by simp only [execOp, ho]) hv hu fun kv hk => pIndexStr_ok hk ht
theorem ok_indexAddr {gl : Fixed} {sc : Sc} {o : Oper} {t e : TypeId} {i : TypeInfo} {sz : Nat} {x y : Operand} {v u : AVal} (ho : o.op = .indexAddr t x y) (ht : P.underlying t = some (.slice e)) (hi : P.info? e = some i) (hz : i.size = sz) (hv : opd sc x = some v) (hu : opd sc y = some u) :
    PrimOk P gl sc o (.val (pIndexAddr sz v u)) :=
  val_2 (s := Instr.indexAt t) (fun ρ => by simp only [execOp, ho]) hv hu fun kv hk => pIndexAddr_ok hk ht hi hz
theorem ok_indexAddrA {gl : Fixed} {sc : Sc} {o : Oper} {t e : TypeId} {i : TypeInfo} {n sz : Nat} {x y : Operand} {v u : AVal} (ho : o.op = .indexAddr t x y) (ht : P.underlying t = some (.array n e)) (hi : P.info? e = some i) (hz : i.size = sz) (hv : opd sc x = some v) (hu : opd sc y = some u) :
    PrimOk P gl sc o (.val (pIndexAddrA n sz v u)) :=
  val_2 (s := Instr.indexAt t) (fun ρ => by simp only [execOp, ho]) hv hu fun kv hk => pIndexAddrA_ok hk ht hi hz
theorem ok_field1 {gl : Fixed} {sc : Sc} {o : Oper} {s : TypeId} {f : Nat} {fs : Array Field} {fl : Field} {d : TypeDesc} {x : Operand} {v : AVal} (ho : o.op = .field s x f) (hs : P.underlying s = some (.struct fs)) (hf : fs[f]? = some fl) (hd : P.underlying fl.type = some d) (ha : isAggD d = false) (hv : opd sc x = some v) :
    PrimOk P gl sc o (.val (pField1 fl.offset v)) :=
  val_1 (s := fun x => Instr.field s x f) (fun ρ => by simp only [execOp, ho]) hv fun kv hk => pField1_ok hk hs hf rfl hd (by cases d <;> simp_all [isAggD])
theorem ok_fieldN {gl : Fixed} {sc : Sc} {o : Oper} {s : TypeId} {f n : Nat} {fs : Array Field} {fl : Field} {d : TypeDesc} {i : TypeInfo} {x : Operand} {v : AVal} (ho : o.op = .field s x f) (hs : P.underlying s = some (.struct fs)) (hf : fs[f]? = some fl) (hd : P.underlying fl.type = some d) (ha : isAggD d = true) (hi : P.info? fl.type = some i) (hz : i.size = n)
    (hv : opd sc x = some v) : PrimOk P gl sc o (.val (pFieldN fl.offset n v)) :=
  val_1 (s := fun x => Instr.field s x f) (fun ρ => by simp only [execOp, ho]) hv fun kv hk => pFieldN_ok hk hs hf rfl hd (by cases d <;> simp_all [isAggD]) hi hz
theorem ok_iface {gl : Fixed} {sc : Sc} {o : Oper} {t : TypeId} {d : TypeDesc} {x : Operand} {v : AVal} (ho : o.op = .makeInterface t x) (ht : P.underlying t = some d) (hd : (match d with | .interface _ => true | _ => false) = false) (hv : opd sc x = some v) : PrimOk P gl sc o (.val (pMakeIface t v)) :=
  val_1 (s := Instr.makeInterface t) (fun ρ => by simp only [execOp, ho]) hv fun kv hk => pMakeIface_ok hk ht hd
theorem ok_assert {gl : Fixed} {sc : Sc} {o : Oper} {t xt : TypeId} {d : TypeDesc} {x : Operand} {v : AVal} (ho : o.op = .typeAssert x xt t false) (ht : P.underlying t = some d) (hd : (match d with | .interface _ => true | _ => false) = false) (hv : opd sc x = some v) : PrimOk P gl sc o (.val (pAssert t v)) :=
  val_1 (s := fun x => Instr.typeAssert x xt t false) (fun ρ => by simp only [execOp, ho]) hv fun kv hk => pAssert_ok hk xt ht hd
theorem ok_pick {gl : Fixed} {sc : Sc} {o : Oper} {c x y : Operand} {b v u : AVal} (ho : o.op = .pick c x y) (hb : opd sc c = some b) (hv : opd sc x = some v) (hu : opd sc y = some u) : PrimOk P gl sc o (.val (pPick b v u)) := by
  intro kv hk
  obtain ⟨r, h1, h2⟩ := pPick_ok hk
  refine ⟨r, h1, fun w ρ a ht => ?_⟩
  obtain ⟨t, g1, g2⟩ := h2 ρ _ _ _ (opd_ok ht hb) (opd_ok ht hv) (opd_ok ht hu)
  refine ⟨_, ?_, g2⟩
  simp only [execOp, ho, g1, asBool, Sem.run_bind, Sem.run_pure, Result.andThen_ok]

end Go.Proofs.YtmgigdklcaepdaaGreatDoor.Ax
end
section
namespace Go.Proofs.YtmgigdklcaepdaaGreatDoor.Ax
set_option linter.unusedVariables false
set_option linter.unusedSimpArgs false

variable {P : Program} {T : Tab}

theorem ok_slice {gl : Fixed} {sc : Sc} {o : Oper} {t : TypeId} {x : Operand} {lo hi mx : Option Operand} {v : AVal} {alo ahi amx : Option AVal} {f : KP → Nat} (ho : o.op = .slice t x lo hi mx) (hv : opd sc x = some v) (hlo : opdO sc lo = some alo) (hhi : opdO sc hi = some ahi) (hmx : opdO sc mx = some amx)
    (h : ∀ kv, f kv = 1 → ∃ r, kv r = 1 ∧ GivesSl P t v alo ahi amx r) : PrimOk P gl sc o (.val f) := by
  intro kv hk
  obtain ⟨r, h1, h2⟩ := h kv hk
  refine ⟨r, h1, fun w ρ a ht => ?_⟩
  obtain ⟨cv, g1, g2⟩ := h2 w ρ _ _ _ _ (opd_ok ht hv) (opdO_ok ht hlo) (opdO_ok ht hhi) (opdO_ok ht hmx)
  exact ⟨cv, by simp only [execOp, ho, Sem.run_bind, g1, Result.andThen_ok, Sem.run_pure], g2⟩
theorem ok_lookup {gl : Fixed} {sc : Sc} {o : Oper} {t kt et : TypeId} {i : TypeInfo} {z : Value} {ts : List Nat} {zero v u : AVal} {x y : Operand} (ho : o.op = .lookup t x y false) (ht : P.underlying t = some (.map kt et)) (hk : KeyT P kt ts)
    (hi : P.info? et = some i) (hz : i.zero = some z) (hzz : ∀ ρ, VRel ρ zero z) (hv : opd sc x = some v) (hu : opd sc y = some u) : PrimOk P gl sc o (.read fun H kv => pLookup ts zero v u H kv) :=
  read_2 (s := fun x k => Instr.lookup t x k false) (fun ρ => by simp only [execOp, ho]) hv hu fun H kv h => pLookup_ok h ht hk hi hz hzz
theorem ok_lookupOk {gl : Fixed} {sc : Sc} {o : Oper} {t kt et : TypeId} {i : TypeInfo} {z : Value} {ts : List Nat} {zero v u : AVal} {x y : Operand} (ho : o.op = .lookup t x y true) (ht : P.underlying t = some (.map kt et)) (hk : KeyT P kt ts)
    (hi : P.info? et = some i) (hz : i.zero = some z) (hzz : ∀ ρ, VRel ρ zero z) (hv : opd sc x = some v) (hu : opd sc y = some u) : PrimOk P gl sc o (.read fun H kv => pLookupOk ts zero v u H kv) :=
  read_2 (s := fun x k => Instr.lookup t x k true) (fun ρ => by simp only [execOp, ho]) hv hu fun H kv h => pLookupOk_ok h ht hk hi hz hzz
theorem ok_entry {gl : Fixed} {sc : Sc} {o : Oper} {x : Operand} {v : AVal} (ho : o.op = .entry x) (hv : opd sc x = some v) : PrimOk P gl sc o (.read fun H kv => pEntry v H kv) :=
  read_1 (s := Instr.entry) (fun ρ => by simp only [execOp, ho]) hv fun H kv h => pEntry_ok h

/-- An effect that is one of the model's on two values. -/
theorem act_2 {gl : Fixed} {sc : Sc} {o : Oper} {x y : Operand} {v u : AVal} {f : Heap → K → Nat} {s : Value → Value → Sem Value} (hs : ∀ ρ : Operand → Value, execOp ρ o = (do pure (Next.value (← s (ρ x) (ρ y))))) (hv : opd sc x = some v) (hu : opd sc y = some u)
    (h : ∀ H kv, f H kv = 1 → ∃ r H', kv r H' = 1 ∧ Acts2 P gl H s v u r H') : PrimOk P gl sc o (.act fun _ => f) := by
  intro rec _ H kv hk
  obtain ⟨r, H', h1, h2⟩ := h H kv hk
  refine ⟨r, H', h1, fun w ρ a hr hf ht next Q hn => ?_⟩
  obtain ⟨cv, ρ', w', g1, g2, g3, g4⟩ := h2 w ρ _ _ hr (hf.fresh _) (opd_ok ht hv) (opd_ok ht hu)
  have : (execOp a.eval o).run P w = .ok (.value cv) w' := by rw [hs]; simp only [Sem.run_bind, g1, Result.andThen_ok, Sem.run_pure]
  rw [this]
  exact hn cv ρ' w' g2 g3 g4
theorem act_1 {gl : Fixed} {sc : Sc} {o : Oper} {x : Operand} {v : AVal} {f : Heap → K → Nat} {s : Value → Sem Value} (hs : ∀ ρ : Operand → Value, execOp ρ o = (do pure (Next.value (← s (ρ x))))) (hv : opd sc x = some v)
    (h : ∀ H kv, f H kv = 1 → ∃ r H', kv r H' = 1 ∧ Acts1 P gl H s v r H') : PrimOk P gl sc o (.act fun _ => f) := by
  intro rec _ H kv hk
  obtain ⟨r, H', h1, h2⟩ := h H kv hk
  refine ⟨r, H', h1, fun w ρ a hr hf ht next Q hn => ?_⟩
  obtain ⟨cv, ρ', w', g1, g2, g3, g4⟩ := h2 w ρ _ hr (hf.fresh _) (opd_ok ht hv)
  have : (execOp a.eval o).run P w = .ok (.value cv) w' := by rw [hs]; simp only [Sem.run_bind, g1, Result.andThen_ok, Sem.run_pure]
  rw [this]
  exact hn cv ρ' w' g2 g3 g4
theorem ok_next {gl : Fixed} {sc : Sc} {o : Oper} {x : Operand} {v : AVal} (ho : o.op = .next x false) (hv : opd sc x = some v) : PrimOk P gl sc o (.act fun _ => pNext v) :=
  act_1 (s := fun x => Instr.next x false o.type) (fun ρ => by simp only [execOp, ho]) hv fun H kv h => pNext_ok h o.type
theorem ok_range {gl : Fixed} {sc : Sc} {o : Oper} {t k e : TypeId} {x : Operand} {v : AVal} (ho : o.op = .range t x) (ht : P.underlying t = some (.map k e)) (hv : opd sc x = some v) : PrimOk P gl sc o (.act fun _ => pRange v) :=
  act_1 (s := Instr.range t) (fun ρ => by simp only [execOp, ho]) hv fun H kv h => pRange_ok h ht
theorem ok_box {gl : Fixed} {sc : Sc} {o : Oper} {t : TypeId} {x : Operand} {v : AVal} (ho : o.op = .box t x) (hv : opd sc x = some v) : PrimOk P gl sc o (.new (pBox v)) := by
  intro H kv hk
  obtain ⟨r, ob, H', h1, h2, h3⟩ := pBox_ok hk t
  refine ⟨r, ob, H', h1, h2, fun w ρ a hb ht => ?_⟩
  obtain ⟨cv, w', tot, obj, g1, g2, g3, g4⟩ := h3 w ρ [a.eval x] hb (.cons (opd_ok ht hv) .nil)
  refine ⟨cv, w', tot, obj, ?_, g2, g3, g4⟩
  have g1 : (Instr.box t (a.eval x)).run P w = .ok cv w' := g1
  simp only [execOp, ho, Sem.run_bind, g1, Result.andThen_ok, Sem.run_pure]

end Go.Proofs.YtmgigdklcaepdaaGreatDoor.Ax
end
section
namespace Go.Proofs.YtmgigdklcaepdaaGreatDoor.Ax
set_option linter.unusedVariables false
set_option linter.unusedSimpArgs false

variable {P : Program} {T : Tab}

theorem run_unit {s : Sem Unit} {w w' : World} {cv : Value} (h : (do s; pure undef : Sem Value).run P w = .ok cv w') : s.run P w = .ok () w' ∧ cv = undef := by
  simp only [Sem.run_bind] at h
  cases hs : s.run P w with
  | halt e w1 => rw [hs] at h; cases h
  | ok a w1 => rw [hs] at h; simp only [Result.andThen_ok, Sem.run_pure] at h; injection h with h1 h2; subst h1 h2; exact ⟨rfl, rfl⟩

theorem ok_store {gl : Fixed} {sc : Sc} {o : Oper} {t : TypeId} {x y : Operand} {v u : AVal} {n : Nat} {i : TypeInfo} (ho : o.op = .store t x y) (hi : P.info? t = some i) (hz : i.size = n) (hv : opd sc x = some v) (hu : opd sc y = some u) : PrimOk P gl sc o (.act fun _ => pStore n v u) := by
  intro rec _ H kv hk
  obtain ⟨r, H', h1, h2⟩ := pStore_ok (gl := gl) hk hi hz
  refine ⟨r, H', h1, fun w ρ a hr hf ht next Q hn => ?_⟩
  obtain ⟨cv, ρ', w', g1, g2, g3, g4⟩ := h2 w ρ _ _ hr (hf.fresh _) (opd_ok ht hv) (opd_ok ht hu)
  obtain ⟨g5, rfl⟩ := run_unit g1
  have : (execOp a.eval o).run P w = .ok .skip w' := by simp only [execOp, ho, Sem.run_bind, g5, Result.andThen_ok, Sem.run_pure]
  rw [this]
  exact hn undef ρ' w' g2 g3 g4
theorem ok_mapUpdate {gl : Fixed} {sc : Sc} {o : Oper} {t kt et : TypeId} {ts : List Nat} {x y z : Operand} {v u q : AVal} (ho : o.op = .mapUpdate t x y z ∨ o.op = .insert t x y z) (ht : P.underlying t = some (.map kt et)) (hk : KeyT P kt ts) (hv : opd sc x = some v) (hu : opd sc y = some u) (hq : opd sc z = some q) :
    PrimOk P gl sc o (.act fun _ => pMapUpdate ts v u q) := by
  intro rec _ H kv hp
  obtain ⟨r, H', h1, h2⟩ := pMapUpdate_ok (gl := gl) hp ht hk
  refine ⟨r, H', h1, fun w ρ a hr hf ht next Q hn => ?_⟩
  obtain ⟨cv, ρ', w', g1, g2, g3, g4⟩ := h2 w ρ _ _ _ hr (hf.fresh _) (opd_ok ht hv) (opd_ok ht hu) (opd_ok ht hq)
  obtain ⟨g5, rfl⟩ := run_unit g1
  have : (execOp a.eval o).run P w = .ok .skip w' := by rcases ho with ho | ho <;> simp only [execOp, ho, Sem.run_bind, g5, Result.andThen_ok, Sem.run_pure]
  rw [this]
  exact hn undef ρ' w' g2 g3 g4

end Go.Proofs.YtmgigdklcaepdaaGreatDoor.Ax
end

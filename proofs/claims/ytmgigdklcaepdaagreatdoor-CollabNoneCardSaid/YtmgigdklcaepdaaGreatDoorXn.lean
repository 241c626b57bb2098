/-
  Other operations: nil checks, conversions, builtins.
-/
import Derived.Test.YtmgigdklcaepdaaGreatDoorXm
set_option linter.unusedVariables false
set_option linter.unusedSimpArgs false
namespace Go.Proofs.YtmgigdklcaepdaaGreatDoor.Ax
set_option linter.unusedVariables false
set_option linter.unusedSimpArgs false

variable {P : Program} {T : Tab}

theorem pCom_ok {x : AVal} {kv : KP} (h : pCom x kv = 1) : ∃ v, kv v = 1 ∧ Gives1 (Op.unary .xor) x v := by
  obtain ⟨k, a, hx, h⟩ := onInt_one h
  obtain ⟨hlt, h⟩ := resI_one h
  have hpos : 0 < modOf k := by cases k <;> decide
  have h : force (modOf k - 1 - (BitVec.ofInt k.bits a).toNat) (fun r => backI k r fun n => mk k n kv) = 1 := h
  rw [force_eq, backI_eq k _ (by omega), mk_eq] at h
  refine ⟨_, h, fun P w ρ cx rx => ?_⟩
  rw [int_inv rx hx]
  refine ⟨.int k (k.wrap ((modOf k - 1 - (BitVec.ofInt k.bits a).toNat : Nat) : Int)), ?_, .mkV _ _⟩
  have key : (BitVec.ofInt k.bits (if k.signed then -1 else k.max) ^^^ BitVec.ofInt k.bits a).toNat = modOf k - 1 - (BitVec.ofInt k.bits a).toNat := by
    have e : BitVec.ofInt k.bits (if k.signed then -1 else k.max) = BitVec.allOnes k.bits := by cases k <;> decide
    rw [e, BitVec.allOnes_xor, BitVec.toNat_not, modOf_pow]
  simp only [Op.unary, Op.intBits, Sem.run_pure, key]
theorem ok_com {gl : Fixed} {sc : Sc} {o : Oper} {t : TypeId} {x : Operand} {v : AVal} (ho : o.op = .unOp .xor t x) (hv : opd sc x = some v) : PrimOk P gl sc o (.val (pCom v)) :=
  val_1 (s := Op.unary .xor) (fun ρ => by simp only [execOp, ho]) hv fun kv hk => let ⟨r, a, b⟩ := pCom_ok hk; ⟨r, a, gives_all1 b⟩
theorem ok_sliceA {gl : Fixed} {sc : Sc} {o : Oper} {t e : TypeId} {x : Operand} {lo hi : Option Operand} {v : AVal} {alo ahi : Option AVal} {n sz : Nat} {i : TypeInfo} (ho : o.op = .slice t x lo hi none) (hv : opd sc x = some v) (hlo : opdO sc lo = some alo) (hhi : opdO sc hi = some ahi) (ht : P.underlying t = some (.array n e)) (hi' : P.info? e = some i) (hz : i.size = sz) :
    PrimOk P gl sc o (.read fun H kv => rSliceA n sz alo ahi v H kv) := by
  intro H kv hk
  rcases onPtr_one hk with ⟨b, o', rfl, h1⟩ | ⟨g, o', rfl, h1⟩
  · obtain ⟨ob, hob, h2⟩ := Heap.get_one h1
    have key : ∃ r, kv r = 1 ∧ (∀ w ρ cx clo chi, VRel ρ (.p b o') cx → (∀ b1 o1 L, (V1.p b1 o1 : AVal) = V1.p b o' → ρ b1 = some L → L.d + o1 + n * sz ≤ L.tot) → ORel ρ alo clo → ORel ρ ahi chi → ∃ cv, (Instr.sliceAt t cx clo chi none).run P w = .ok cv w ∧ VRel ρ r cv) ∧ ∀ w ρ L, HR gl H.f ρ w → ρ b = some L → L.d + o' + n * sz ≤ L.tot := by
      rcases onCells_one h2 with ⟨es, cnt, wr, tr, rfl, h3⟩ | ⟨m, c, wr, rfl, h3⟩
      · obtain ⟨hle, h4⟩ := ifB_true h3 (by decide)
        have hle : o' + n * sz ≤ cnt * es := Nat.le_of_ble_eq_true hle
        obtain ⟨r, g1, g2⟩ := pSliceA_ok (P := P) h4 ht hi' hz
        refine ⟨r, g1, fun w ρ cx clo chi rx hb rl rh => g2 w ρ cx clo chi rx (fun b1 o1 L e1 e2 => hb b1 o1 L e1.symm e2) rl rh, fun w ρ L hr hb => ?_⟩
        obtain ⟨arr, fz, _, _, hn, _⟩ := hr.obj b L _ hb hob
        omega
      · obtain ⟨hle, h4⟩ := ifB_true h3 (by decide)
        have hle : o' + n * sz ≤ m := Nat.le_of_ble_eq_true hle
        obtain ⟨r, g1, g2⟩ := pSliceA_ok (P := P) h4 ht hi' hz
        refine ⟨r, g1, fun w ρ cx clo chi rx hb rl rh => g2 w ρ cx clo chi rx (fun b1 o1 L e1 e2 => hb b1 o1 L e1.symm e2) rl rh, fun w ρ L hr hb => ?_⟩
        obtain ⟨arr, fz, _, _, hn, _⟩ := hr.obj b L _ hb hob
        omega
    obtain ⟨r, g1, g2, g3⟩ := key
    refine ⟨r, g1, fun w ρ a hr ht' => ?_⟩
    obtain ⟨cv, q1, q2⟩ := g2 w ρ _ _ _ (opd_ok ht' hv) (fun b1 o1 L e1 e2 => by injection e1 with e1 e3; subst e1 e3; exact g3 w ρ L hr e2) (opdO_ok ht' hlo) (opdO_ok ht' hhi)
    exact ⟨cv, by simp only [execOp, ho, Sem.run_bind, Option.map_none, q1, Result.andThen_ok, Sem.run_pure], q2⟩
  · cases h1
theorem run_buildSlice0 {t e : TypeId} {i : TypeInfo} (ht : P.underlying t = some (.slice e)) (hi : P.info? e = some i) (w : World) {parts : Array (Nat × Value)} (hp : parts.toList = []) :
    (Instr.buildSlice t 0 parts).run P w = .ok (.slice (some ⟨w.heap.size, 0, none⟩) 0 0) { w with heap := w.heap.push (.cells #[] e) } := by
  simp only [Instr.buildSlice, Sem.run_bind, run_und ht, Result.andThen_ok, run_size hi, Nat.zero_mul, Sem.run_ite, Sem.run_pure, if_true, hp, Instr.fill, Go.newRow, run_newObj]
  have e0 : ∀ f : Nat → Value, Array.map f (Array.range 0) = #[] := fun f => by apply Array.toList_inj.mp; simp
  simp [run_newObj, e0]
theorem ok_build0 {gl : Fixed} {sc : Sc} {o : Oper} {t e : TypeId} {ps : Array (Nat × Operand)} {i : TypeInfo} (ho : o.op = .buildSlice t 0 ps) (hp : ps.toList = []) (ht : P.underlying t = some (.slice e)) (hi : P.info? e = some i) (esz : Nat) (ob : AObj) (hob : ob = .cells esz 0 true .lf ∨ (ob = .bytes 0 0 true ∧ esz = 1)) : PrimOk P gl sc o (.new fun H kv => H.new ob fun b H => kv (.sl b 0 0 esz (.ex 0)) H) := by
  intro H kv hk
  obtain ⟨H', h1, h2, h3⟩ := Heap.new_one hk
  refine ⟨_, ob, H', h1, ⟨h2, h3⟩, fun w ρ a hb ht' => ?_⟩
  have hrun := run_buildSlice0 (P := P) ht hi w (parts := ps.map fun (i, x) => (i, a.eval x)) (by simp [hp])
  have hps : ps = #[] := Array.toList_inj.mp (by simpa using hp)
  have hpush : Push (.cells #[] e) w { w with heap := w.heap.push (.cells #[] e) } := ⟨rfl, rfl, rfl, rfl⟩
  refine ⟨_, _, 0, .cells #[] e, show (execOp a.eval o).run P w = .ok (.value _) _ from (by simp only [execOp, ho, Sem.run_bind]; rw [hrun]; simp only [Result.andThen_ok, Sem.run_pure]; rfl), hpush, ?_, ?_⟩
  · rcases hob with hob | ⟨hob, _⟩ <;> subst hob
    · exact ⟨#[], fun _ => false, ⟨e, 0, 0, by simp, fun j => by simp⟩, rfl, by simp, fun i hi => by omega, fun _ _ _ => rfl⟩
    · exact ⟨#[], fun _ => false, ⟨e, 0, 0, by simp, fun j => by simp⟩, rfl, by simp, by decide, fun i b hb => by simp [bytesOf] at hb, fun _ _ _ => rfl⟩
  · exact .slE (L := ⟨w.heap.size, 0, 0⟩) (Ren.set_at _ _ _) rfl (Nat.le_refl _)
theorem ok_nil {gl : Fixed} {sc : Sc} {o : Oper} {x : Operand} {v : AVal} (ho : o.op = .nilCheck x) (hv : opd sc x = some v) : PrimOk P gl sc o (.val (pNil v)) := by
  intro kv hk
  obtain ⟨r, h1, h2⟩ := pNil_ok hk
  refine ⟨r, h1, fun w ρ a ht => ?_⟩
  obtain ⟨g1, ad, g2⟩ := h2 ρ _ (opd_ok ht hv)
  refine ⟨a.eval x, ?_, g1⟩
  simp only [execOp, ho, g2, Sem.run_pure]
theorem ok_conv {gl : Fixed} {sc : Sc} {o : Oper} {s d : TypeId} {j k : IntKind} {x : Operand} {v : AVal} (ho : o.op = .convert s d x) (hs : P.underlying s = some (.int j)) (hd : P.underlying d = some (.int k)) (hv : opd sc x = some v) : PrimOk P gl sc o (.val (pConv k v)) := by
  intro kv hk
  obtain ⟨r, h1, h2⟩ := pConv_ok hk
  refine ⟨r, h1, fun w ρ a ht => ?_⟩
  obtain ⟨j', n, cv, g1, g2, g3⟩ := h2 P w ρ _ (opd_ok ht hv)
  refine ⟨cv, ?_, g3⟩
  simp only [execOp, ho, Sem.run_bind, convert, g1, run_und hs, run_und hd, Result.andThen_ok, g2, Sem.run_pure]
theorem ok_convSS {gl : Fixed} {sc : Sc} {o : Oper} {s d : TypeId} {x : Operand} {v : AVal} (ho : o.op = .convert s d x) (hs : P.underlying s = some .string) (hd : P.underlying d = some .string) (hv : opd sc x = some v) : PrimOk P gl sc o (.val (pMvS v)) := by
  intro kv hk
  obtain ⟨n, c, e, h1⟩ := onStr_one hk
  subst e
  refine ⟨_, h1, fun w ρ a ht => ?_⟩
  have g := opd_ok ht hv
  generalize hx : a.eval x = cx at g
  cases g with
  | str hc =>
    refine ⟨_, ?_, .str hc⟩
    simp only [execOp, ho, Sem.run_bind, convert, hx, run_und hs, run_und hd, Result.andThen_ok, Sem.run_pure]
theorem ok_convBS {gl : Fixed} {sc : Sc} {o : Oper} {s d e : TypeId} {x : Operand} {v : AVal} (ho : o.op = .convert s d x) (hs : P.underlying s = some (.slice e)) (he : P.underlying e = some (.int .u8)) (hd : P.underlying d = some .string) (hv : opd sc x = some v) : PrimOk P gl sc o (.read fun H kv => pConvBS v H kv) := by
  intro H kv hk
  obtain ⟨r, h1, h2⟩ := pConvBS_ok (gl := gl) (P := P) hk
  refine ⟨r, h1, fun w ρ a hr ht => ?_⟩
  have g := opd_ok ht hv
  obtain ⟨cv, g1, g2⟩ := h2 w ρ _ hr g
  refine ⟨cv, ?_, g2⟩
  have hx : ∃ p n c, a.eval x = .slice p n c := by
    rcases onSl_one hk with ⟨b, o', n, es, c, e1, _⟩ | ⟨e1, _⟩
    · subst e1; generalize a.eval x = cx at g; cases g <;> exact ⟨_, _, _, rfl⟩
    · subst e1; generalize a.eval x = cx at g; cases g; exact ⟨_, _, _, rfl⟩
  obtain ⟨p, n, c, hx⟩ := hx
  rw [hx] at g1
  simp only [execOp, ho, Sem.run_bind, convert, hx, run_und hs, run_und hd, run_und he, Result.andThen_ok, g1, Sem.run_pure]
theorem ok_convSB {gl : Fixed} {sc : Sc} {o : Oper} {s d e : TypeId} {x : Operand} {v : AVal} (ho : o.op = .convert s d x) (hs : P.underlying s = some .string) (hd : P.underlying d = some (.slice e)) (he : P.underlying e = some (.int .u8)) (hv : opd sc x = some v) : PrimOk P gl sc o (.new (pConvSB v)) := by
  intro H kv hk
  obtain ⟨r, ob, H', h1, h2, h3⟩ := pConvSB_ok (P := P) hk e
  refine ⟨r, ob, H', h1, h2, fun w ρ a hb ht => ?_⟩
  obtain ⟨s', cv, w', tot, obj, g0, g1, g2, g3, g4⟩ := h3 w ρ _ hb (opd_ok ht hv)
  refine ⟨cv, w', tot, obj, ?_, g2, g3, g4⟩
  simp only [execOp, ho, Sem.run_bind, convert, g0, run_und hs, run_und hd, run_und he, Result.andThen_ok, g1, Sem.run_pure]

/-! builtins -/
theorem opds_1 {sc : Sc} {xs : List Operand} {v : AVal} (h : opds sc xs = some [v]) : ∃ x, xs = [x] ∧ opd sc x = some v := by
  cases xs with
  | nil => simp [opds] at h
  | cons x xs =>
    unfold opds at h
    split at h
    · rename_i a as h1 h2
      injection h with h; injection h with e1 e2; subst e1 e2
      cases xs with
      | nil => exact ⟨x, rfl, h1⟩
      | cons y ys => unfold opds at h2; split at h2 <;> simp at h2
    · cases h
theorem opds_2 {sc : Sc} {xs : List Operand} {v u : AVal} (h : opds sc xs = some [v, u]) : ∃ x y, xs = [x, y] ∧ opd sc x = some v ∧ opd sc y = some u := by
  cases xs with
  | nil => simp [opds] at h
  | cons x xs =>
    unfold opds at h
    split at h
    · rename_i a as h1 h2
      injection h with h; injection h with e1 e2; subst e1 e2
      obtain ⟨y, rfl, hy⟩ := opds_1 h2
      exact ⟨x, y, rfl, h1, hy⟩
    · cases h
theorem args_1 {c : Call} {x : Operand} (h : c.args.toList = [x]) (ρ : Operand → Value) : c.args.map ρ = #[ρ x] := by
  apply Array.toList_inj.mp; simp [h]
theorem args_2 {c : Call} {x y : Operand} (h : c.args.toList = [x, y]) (ρ : Operand → Value) : c.args.map ρ = #[ρ x, ρ y] := by
  apply Array.toList_inj.mp; simp [h]
theorem run_builtin {o : Oper} {c : Call} {b : Builtin} (ho : o.op = .call c) (hb : c.callee = .builtin b) (ρ : Operand → Value) (w : World) :
    ∃ cs, (execOp ρ o).run P w = (builtin b c.argTypes o.type cs (c.args.map ρ)).run P w := by
  simp only [execOp, ho, resolve, hb, Sem.run_bind, Sem.run_pure, Result.andThen_ok, invoke]
  exact ⟨_, rfl⟩

theorem bi_1 {gl : Fixed} {sc : Sc} {o : Oper} {c : Call} {b : Builtin} {v : AVal} {f : KP → Nat} {s : Value → Sem Value} (ho : o.op = .call c) (hb : c.callee = .builtin b) (hv : opds sc c.args.toList = some [v])
    (hs : ∀ cs x, builtin b c.argTypes o.type cs #[x] = (do pure (Next.value (← s x))))
    (h : ∀ kv, f kv = 1 → ∃ r, kv r = 1 ∧ GivesP1 P s v r) : PrimOk P gl sc o (.val f) := by
  intro kv hk
  obtain ⟨x, hx, hv⟩ := opds_1 hv
  obtain ⟨r, h1, h2⟩ := h kv hk
  refine ⟨r, h1, fun w ρ a ht => ?_⟩
  obtain ⟨cv, g3, g4⟩ := h2 w ρ _ (opd_ok ht hv)
  exact ⟨cv, by obtain ⟨cs, e⟩ := run_builtin (P := P) ho hb a.eval w; rw [e, args_1 hx, hs]; simp only [Sem.run_bind, g3, Result.andThen_ok, Sem.run_pure], g4⟩
theorem bi_2 {gl : Fixed} {sc : Sc} {o : Oper} {c : Call} {b : Builtin} {v u : AVal} {f : KP → Nat} {s : Value → Value → Sem Value} (ho : o.op = .call c) (hb : c.callee = .builtin b) (hv : opds sc c.args.toList = some [v, u])
    (hs : ∀ cs x y, builtin b c.argTypes o.type cs #[x, y] = (do pure (Next.value (← s x y))))
    (h : ∀ kv, f kv = 1 → ∃ r, kv r = 1 ∧ GivesP2 P s v u r) : PrimOk P gl sc o (.val f) := by
  intro kv hk
  obtain ⟨x, y, hx, hv, hu⟩ := opds_2 hv
  obtain ⟨r, h1, h2⟩ := h kv hk
  refine ⟨r, h1, fun w ρ a ht => ?_⟩
  obtain ⟨cv, g3, g4⟩ := h2 w ρ _ _ (opd_ok ht hv) (opd_ok ht hu)
  exact ⟨cv, by obtain ⟨cs, e⟩ := run_builtin (P := P) ho hb a.eval w; rw [e, args_2 hx, hs]; simp only [Sem.run_bind, g3, Result.andThen_ok, Sem.run_pure], g4⟩

theorem ok_lenS {gl : Fixed} {sc : Sc} {o : Oper} {c : Call} {v : AVal} {t : TypeId} (ho : o.op = .call c) (hb : c.callee = .builtin .len) (hv : opds sc c.args.toList = some [v]) (h0 : c.argTypes[0]? = some t) (ht : P.underlying t = some .string) : PrimOk P gl sc o (.val (pLenS v)) :=
  bi_1 (s := fun x => Builtin.len_ c.argTypes o.type #[x]) ho hb hv (fun _ _ => rfl) fun kv h => pLenS_ok h ht o.type c.argTypes h0
theorem ok_lenSl {gl : Fixed} {sc : Sc} {o : Oper} {c : Call} {v : AVal} {t e : TypeId} (ho : o.op = .call c) (hb : c.callee = .builtin .len) (hv : opds sc c.args.toList = some [v]) (h0 : c.argTypes[0]? = some t) (ht : P.underlying t = some (.slice e)) : PrimOk P gl sc o (.val (pLenSl v)) :=
  bi_1 (s := fun x => Builtin.len_ c.argTypes o.type #[x]) ho hb hv (fun _ _ => rfl) fun kv h => pLenSl_ok h ht o.type c.argTypes h0
theorem ok_cap {gl : Fixed} {sc : Sc} {o : Oper} {c : Call} {v : AVal} {t e : TypeId} (ho : o.op = .call c) (hb : c.callee = .builtin .cap) (hv : opds sc c.args.toList = some [v]) (h0 : c.argTypes[0]? = some t) (ht : P.underlying t = some (.slice e)) : PrimOk P gl sc o (.val (pCap v)) :=
  bi_1 (s := fun x => Builtin.cap_ c.argTypes o.type #[x]) ho hb hv (fun _ _ => rfl) fun kv h => pCap_ok h ht o.type c.argTypes h0
theorem ok_lenM {gl : Fixed} {sc : Sc} {o : Oper} {c : Call} {v : AVal} {t k e : TypeId} (ho : o.op = .call c) (hb : c.callee = .builtin .len) (hv : opds sc c.args.toList = some [v]) (h0 : c.argTypes[0]? = some t) (ht : P.underlying t = some (.map k e)) : PrimOk P gl sc o (.read fun H kv => pLenM v H kv) := by
  intro H kv hk
  obtain ⟨x, hx, hv⟩ := opds_1 hv
  obtain ⟨r, h1, h2⟩ := pLenM_ok (gl := gl) hk ht o.type c.argTypes h0
  refine ⟨r, h1, fun w ρ a hr hq => ?_⟩
  obtain ⟨cv, g3, g4⟩ := h2 w ρ _ hr (opd_ok hq hv)
  exact ⟨cv, by obtain ⟨cs, e⟩ := run_builtin (P := P) ho hb a.eval w; rw [e, args_1 hx]; simp only [builtin, Sem.run_bind, g3, Result.andThen_ok, Sem.run_pure], g4⟩
theorem ok_min {gl : Fixed} {sc : Sc} {o : Oper} {c : Call} {v u : AVal} (ho : o.op = .call c) (hb : c.callee = .builtin .min) (hv : opds sc c.args.toList = some [v, u]) : PrimOk P gl sc o (.val (pMin v u)) :=
  bi_2 (s := fun x y => Builtin.min_ c.argTypes o.type #[x, y]) ho hb hv (fun _ _ _ => rfl) fun kv h => let ⟨r, h1, h2⟩ := pMin_ok h; ⟨r, h1, fun w ρ cx cy rx ry => let ⟨cv, a, b⟩ := h2 P w ρ cx cy rx ry; ⟨cv, by simp only [Builtin.min_, List.foldlM, Sem.run_bind, a, Result.andThen_ok, Sem.run_pure], b⟩⟩
theorem ok_max {gl : Fixed} {sc : Sc} {o : Oper} {c : Call} {v u : AVal} (ho : o.op = .call c) (hb : c.callee = .builtin .max) (hv : opds sc c.args.toList = some [v, u]) : PrimOk P gl sc o (.val (pMax v u)) :=
  bi_2 (s := fun x y => Builtin.max_ c.argTypes o.type #[x, y]) ho hb hv (fun _ _ _ => rfl) fun kv h => let ⟨r, h1, h2⟩ := pMax_ok h; ⟨r, h1, fun w ρ cx cy rx ry => let ⟨cv, a, b⟩ := h2 P w ρ cx cy rx ry; ⟨cv, by simp only [Builtin.max_, List.foldlM, Sem.run_bind, a, Result.andThen_ok, Sem.run_pure], b⟩⟩
theorem opds_3 {sc : Sc} {xs : List Operand} {v u q : AVal} (h : opds sc xs = some [v, u, q]) : ∃ x y z, xs = [x, y, z] ∧ opd sc x = some v ∧ opd sc y = some u ∧ opd sc z = some q := by
  cases xs with
  | nil => simp [opds] at h
  | cons x xs =>
    unfold opds at h
    split at h
    · rename_i a as h1 h2
      injection h with h; injection h with e1 e2; subst e1 e2
      obtain ⟨y, z, rfl, hy, hz⟩ := opds_2 h2
      exact ⟨x, y, z, rfl, h1, hy, hz⟩
    · cases h
theorem args_3 {c : Call} {x y z : Operand} (h : c.args.toList = [x, y, z]) (ρ : Operand → Value) : c.args.map ρ = #[ρ x, ρ y, ρ z] := by
  apply Array.toList_inj.mp; simp [h]
theorem ok_min3 {gl : Fixed} {sc : Sc} {o : Oper} {c : Call} {v u q : AVal} (ho : o.op = .call c) (hb : c.callee = .builtin .min) (hv : opds sc c.args.toList = some [v, u, q]) : PrimOk P gl sc o (.val (pMin3 v u q)) := by
  intro kv hk
  obtain ⟨x, y, z, hx, hv, hu, hq⟩ := opds_3 hv
  obtain ⟨r, h1, h2⟩ := pMin_ok (show pMin v u (fun v => pMin v q kv) = 1 from hk)
  obtain ⟨s, h3, h4⟩ := pMin_ok h1
  refine ⟨s, h3, fun w ρ a ht => ?_⟩
  obtain ⟨cr, g1, g2⟩ := h2 P w ρ _ _ (opd_ok ht hv) (opd_ok ht hu)
  obtain ⟨cs, g3, g4⟩ := h4 P w ρ _ _ g2 (opd_ok ht hq)
  refine ⟨cs, ?_, g4⟩
  obtain ⟨cc, e⟩ := run_builtin (P := P) ho hb a.eval w
  rw [e, args_3 hx]
  simp only [builtin, Builtin.min_, List.foldlM, Sem.run_bind, g1, g3, Result.andThen_ok, Sem.run_pure]
theorem ok_max3 {gl : Fixed} {sc : Sc} {o : Oper} {c : Call} {v u q : AVal} (ho : o.op = .call c) (hb : c.callee = .builtin .max) (hv : opds sc c.args.toList = some [v, u, q]) : PrimOk P gl sc o (.val (pMax3 v u q)) := by
  intro kv hk
  obtain ⟨x, y, z, hx, hv, hu, hq⟩ := opds_3 hv
  obtain ⟨r, h1, h2⟩ := pMax_ok (show pMax v u (fun v => pMax v q kv) = 1 from hk)
  obtain ⟨s, h3, h4⟩ := pMax_ok h1
  refine ⟨s, h3, fun w ρ a ht => ?_⟩
  obtain ⟨cr, g1, g2⟩ := h2 P w ρ _ _ (opd_ok ht hv) (opd_ok ht hu)
  obtain ⟨cs, g3, g4⟩ := h4 P w ρ _ _ g2 (opd_ok ht hq)
  refine ⟨cs, ?_, g4⟩
  obtain ⟨cc, e⟩ := run_builtin (P := P) ho hb a.eval w
  rw [e, args_3 hx]
  simp only [builtin, Builtin.max_, List.foldlM, Sem.run_bind, g1, g3, Result.andThen_ok, Sem.run_pure]
/-- A builtin's effect. -/
theorem bact_2 {gl : Fixed} {sc : Sc} {o : Oper} {c : Call} {b : Builtin} {v u : AVal} {f : Heap → K → Nat} {s : Value → Value → Sem Value} (ho : o.op = .call c) (hb : c.callee = .builtin b) (hv : opds sc c.args.toList = some [v, u])
    (hs : ∀ cs x y, builtin b c.argTypes o.type cs #[x, y] = (do pure (Next.value (← s x y))))
    (h : ∀ H kv, f H kv = 1 → ∃ r H', kv r H' = 1 ∧ Acts2 P gl H s v u r H') : PrimOk P gl sc o (.act fun _ => f) := by
  intro rec _ H kv hk
  obtain ⟨x, y, hx, hv, hu⟩ := opds_2 hv
  obtain ⟨r, H', h1, h2⟩ := h H kv hk
  refine ⟨r, H', h1, fun w ρ a hr hf ht next Q hn => ?_⟩
  obtain ⟨cv, ρ', w', g1, g2, g3, g4⟩ := h2 w ρ _ _ hr (hf.fresh _) (opd_ok ht hv) (opd_ok ht hu)
  have : (execOp a.eval o).run P w = .ok (.value cv) w' := by obtain ⟨cs, e⟩ := run_builtin (P := P) ho hb a.eval w; rw [e, args_2 hx, hs]; simp only [Sem.run_bind, g1, Result.andThen_ok, Sem.run_pure]
  rw [this]
  exact hn cv ρ' w' g2 g3 g4
theorem ok_delete {gl : Fixed} {sc : Sc} {o : Oper} {c : Call} {v u : AVal} {t k e : TypeId} {ts : List Nat} (ho : o.op = .call c) (hb : c.callee = .builtin .delete) (hv : opds sc c.args.toList = some [v, u]) (h0 : c.argTypes[0]? = some t) (ht : P.underlying t = some (.map k e)) (hk : KeyT P k ts) : PrimOk P gl sc o (.act fun _ => pDelete ts v u) :=
  bact_2 (s := fun x y => Builtin.delete_ c.argTypes o.type #[x, y]) ho hb hv (fun _ _ _ => rfl) fun H kv h => pDelete_ok h ht hk o.type c.argTypes h0
theorem ok_append {gl : Fixed} {sc : Sc} {o : Oper} {c : Call} {v u : AVal} {t s e : TypeId} {i : TypeInfo} {z : Value} {esz : Nat} (ho : o.op = .call c) (hb : c.callee = .builtin .append) (hv : opds sc c.args.toList = some [v, u]) (h0 : c.argTypes = #[t, s]) (A : AppT P t s e i z esz) (hes : 0 < esz) : PrimOk P gl sc o (.act fun _ => pAppend esz v u) :=
  bact_2 (s := fun x y => Builtin.append_ #[t, s] o.type #[x, y]) ho hb hv (fun _ _ _ => by rw [h0]; rfl) fun H kv h => pAppend_ok o.type A hes h

theorem ok_mapEntry {gl : Fixed} {sc : Sc} {o : Oper} {t kt et : TypeId} {i : TypeInfo} {z : Value} {ts : List Nat} {zero v u : AVal} {x y : Operand} (ho : o.op = .mapEntry t x y) (ht : P.underlying t = some (.map kt et)) (hk : KeyT P kt ts)
    (hi : P.info? et = some i) (hz : i.zero = some z) (hzz : ∀ ρ, VRel ρ zero z) (hv : opd sc x = some v) (hu : opd sc y = some u) : PrimOk P gl sc o (.act fun _ => pMapEntry ts zero v u) :=
  act_2 (s := Instr.mapEntry t) (fun ρ => by simp only [execOp, ho]) hv hu fun H kv h => pMapEntry_ok h ht hk hi hz hzz
theorem ok_entryStore {gl : Fixed} {sc : Sc} {o : Oper} {t : TypeId} {x y z : Operand} {v u q : AVal} (ho : o.op = .entryStore t x y z) (hv : opd sc x = some v) (hu : opd sc y = some u) (hq : opd sc z = some q) :
    PrimOk P gl sc o (.act fun _ => pEntryStore v u q) := by
  intro rec _ H kv hp
  obtain ⟨r, H', h1, h2⟩ := pEntryStore_ok (P := P) (gl := gl) hp t
  refine ⟨r, H', h1, fun w ρ a hr hf ht next Q hn => ?_⟩
  obtain ⟨cv, ρ', w', g1, g2, g3, g4⟩ := h2 w ρ _ _ _ hr (hf.fresh _) (opd_ok ht hv) (opd_ok ht hu) (opd_ok ht hq)
  obtain ⟨g5, rfl⟩ := run_unit g1
  have : (execOp a.eval o).run P w = .ok .skip w' := by simp only [execOp, ho, Sem.run_bind, g5, Result.andThen_ok, Sem.run_pure]
  rw [this]
  exact hn undef ρ' w' g2 g3 g4

end Go.Proofs.YtmgigdklcaepdaaGreatDoor.Ax

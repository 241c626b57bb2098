/-
  Composite values, new blocks, calls. · make of a slice. · clear of a slice. · Every operation of the denotation is right.
-/
import Derived.Test.YtmgigdklcaepdaaGreatDoorXn
import Derived.Laws.MakeOwn
set_option linter.unusedVariables false
set_option linter.unusedSimpArgs false
section
namespace Go.Proofs.YtmgigdklcaepdaaGreatDoor.Ax
set_option linter.unusedVariables false
set_option linter.unusedSimpArgs false

variable {P : Program} {T : Tab}

theorem ok_alloc {gl : Fixed} {sc : Sc} {o : Oper} {e : TypeId} {l : List AVal} (h : TabOk P T) (ho : o.op = .alloc e) (hz : T.zeroL e = some l) : PrimOk P gl sc o (.new (newRow l)) := by
  intro H kv hk
  obtain ⟨i, z, hi, hiz, hl, h1⟩ := h.zeroL hz
  obtain ⟨r, ob, H', g1, g2, g3⟩ := pAlloc_ok hk hi hiz hl h1
  refine ⟨r, ob, H', g1, g2, fun w ρ a hb ht => ?_⟩
  obtain ⟨cv, w', tot, obj, g4, g5, g6, g7⟩ := g3 w ρ [] hb .nil
  refine ⟨cv, w', tot, obj, ?_, g5, g6, g7⟩
  have g4 : (Instr.alloc e true (.tuple #[])).run P w = .ok cv w' := g4
  simp only [execOp, ho, Sem.run_bind, g4, Result.andThen_ok, Sem.run_pure]
theorem ok_makeMap {gl : Fixed} {sc : Sc} {o : Oper} {t : TypeId} (ho : o.op = .makeMap t none) : PrimOk P gl sc o (.new pMakeMap) := by
  intro H kv hk
  obtain ⟨r, ob, H', g1, g2, g3⟩ := pMakeMap_ok (P := P) hk t (r := none) (fun x e => by cases e)
  refine ⟨r, ob, H', g1, g2, fun w ρ a hb ht => ?_⟩
  obtain ⟨cv, w', tot, obj, g4, g5, g6, g7⟩ := g3 w ρ [] hb .nil
  refine ⟨cv, w', tot, obj, ?_, g5, g6, g7⟩
  have g4 : (Instr.makeMap t none).run P w = .ok cv w' := g4
  simp only [execOp, ho, Sem.run_bind, Option.map_none, g4, Result.andThen_ok, Sem.run_pure]

theorem TabOk.places (h : TabOk P T) : ∀ {fs : List Field} {pa : List (Nat × Nat)}, placesA T fs = some pa → fs.mapM (fun f => (P.info? f.type).map fun i => (f.offset, i.size)) = some pa
  | [], pa, e => by simp [placesA] at e; subst e; rfl
  | f :: fs, pa, e => by
    unfold placesA at e
    split at e
    · rename_i sz l h1 h2
      injection e with e; subst e
      obtain ⟨i, hi, hs⟩ := h.info h1
      simp [List.mapM_cons, hi, h.places h2, hs]
    · cases e
theorem placesS_map {pa : List (Nat × Nat)} : ∀ {idx : List Nat} {pl : List (Nat × Nat)}, placesS pa idx = some pl → pl.map some = idx.map (fun i => pa.toArray[i]?)
  | [], pl, e => by simp [placesS] at e; subst e; rfl
  | i :: is, pl, e => by
    unfold placesS at e
    split at e
    · rename_i p l h1 h2
      injection e with e; subst e
      simp [h1]
      simpa using placesS_map h2
    · cases e
theorem inside_all {z : List AVal} {pl : List (Nat × Nat)} (h : inside z pl = true) : ∀ p ∈ pl, p.1 ≤ z.length := fun p hp => Nat.le_of_ble_eq_true (List.all_eq_true.mp h p hp)
theorem parts_snd (ps : Array (Nat × Operand)) (ρ : Operand → Value) : (ps.map fun (i, x) => (i, ρ x)).toList.map (·.2) = (ps.toList.map (·.2)).map ρ := by
  simp [List.map_map, Function.comp_def]
theorem parts_fst (ps : Array (Nat × Operand)) (ρ : Operand → Value) : (ps.map fun (i, x) => (i, ρ x)).toList.map (·.1) = ps.toList.map (·.1) := by
  simp [List.map_map, Function.comp_def]

theorem ok_build {gl : Fixed} {sc : Sc} {o : Oper} {t : TypeId} {ps : Array (Nat × Operand)} {l : List AVal} {vs : List AVal} {pl : List (Nat × Nat)} {z : Value} {place : Nat → Option (Nat × Nat)} (ho : o.op = .build t ps) (hz : ∀ ρ, LRel ρ l z.cells.toList) (h1 : One z.cells.toList)
    (hp : PlaceT P t z place) (hi : pl.map some = (ps.toList.map (·.1)).map place) (hb : inside l pl = true) (hv : opds sc (ps.toList.map (·.2)) = some vs) : PrimOk P gl sc o (.val (pBuild l pl vs)) := by
  intro kv hk
  obtain ⟨r, g1, g2⟩ := pBuild_ok hk hz h1 hp hi (inside_all hb)
  refine ⟨r, g1, fun w ρ a ht => ?_⟩
  obtain ⟨cv, g3, g4⟩ := g2 w ρ (ps.map fun (i, x) => (i, a.eval x)) (by rw [parts_snd]; exact opds_ok ht hv) (parts_fst _ _)
  exact ⟨cv, by simp only [execOp, ho, Sem.run_bind, g3, Result.andThen_ok, Sem.run_pure], g4⟩
theorem ok_buildS {gl : Fixed} {sc : Sc} {o : Oper} {t : TypeId} {fs : Array Field} {ps : Array (Nat × Operand)} {l : List AVal} {vs : List AVal} {pa pl : List (Nat × Nat)} (h : TabOk P T) (ho : o.op = .build t ps) (hz : T.zeroL t = some l) (hu : T.und t = some (.struct fs))
    (hpa : placesA T fs.toList = some pa) (hpl : placesS pa (ps.toList.map (·.1)) = some pl) (hb : inside l pl = true) (hv : opds sc (ps.toList.map (·.2)) = some vs) : PrimOk P gl sc o (.val (pBuild l pl vs)) := by
  obtain ⟨i, z, hi, hiz, hl, h1⟩ := h.zeroL hz
  refine ok_build (place := (pa.toArray[·]?)) ho hl h1 (fun parts cells hf => ?_) (placesS_map hpl) hb hv
  simp only [Program.built, hi, h.und hu, hiz, h.places hpa]
  exact hf
theorem ok_buildA {gl : Fixed} {sc : Sc} {o : Oper} {t e : TypeId} {n sz : Nat} {ps : Array (Nat × Operand)} {l : List AVal} {vs : List AVal} (h : TabOk P T) (ho : o.op = .build t ps) (hz : T.zeroL t = some l) (hu : T.und t = some (.array n e))
    (hsz : T.size e = some sz) (hb : inside l ((ps.toList.map (·.1)).map fun i => (i * sz, sz)) = true) (hv : opds sc (ps.toList.map (·.2)) = some vs) : PrimOk P gl sc o (.val (pBuild l ((ps.toList.map (·.1)).map fun i => (i * sz, sz)) vs)) := by
  obtain ⟨i, z, hi, hiz, hl, h1⟩ := h.zeroL hz
  obtain ⟨ie, hie, hs⟩ := h.info hsz
  subst hs
  refine ok_build (place := fun i => some (i * ie.size, ie.size)) ho hl h1 (fun parts cells hf => ?_) (by simp) hb hv
  simp only [Program.built, hi, h.und hu, hiz, hie]
  exact hf

theorem repC_len (n : Nat) (z : List AVal) : (repC n z).length = n * z.length := by
  induction n with
  | zero => simp [repC]
  | succ n ih => simp [repC, ih, Nat.succ_mul, Nat.add_comm]
theorem repC_get {z : List AVal} : ∀ {n i : Nat}, i < n * z.length → (repC n z)[i]? = z[i % z.length]?
  | 0, i, h => by simp at h
  | n + 1, i, h => by
    show (z ++ repC n z)[i]? = _
    by_cases hi : i < z.length
    · rw [List.getElem?_append_left hi, Nat.mod_eq_of_lt hi]
    · have hi : z.length ≤ i := by omega
      rw [List.getElem?_append_right hi, repC_get (by rw [Nat.succ_mul] at h; omega), Nat.mod_eq_sub_mod hi]
theorem zerosOf_len (z : Array Value) (n : Nat) : (zerosOf z n).size = n := by simp [zerosOf]
theorem zeros_rel {ρ : Ren} {l : List AVal} {z : Array Value} (h : LRel ρ l z.toList) (n : Nat) : LRel ρ (repC n l) (zerosOf z (n * l.length)).toList := by
  refine ⟨by rw [repC_len]; simp [zerosOf_len], fun i x y hx hy => ?_⟩
  have hi : i < n * l.length := by
    rcases Nat.lt_or_ge i (n * l.length) with h | h
    · exact h
    · rw [List.getElem?_eq_none (by rw [repC_len]; exact h)] at hx; cases hx
  rw [repC_get hi] at hx
  have hl : l.length = z.size := by simpa using h.1
  have hp : i % l.length < l.length := Nat.mod_lt _ (by rcases Nat.eq_zero_or_pos l.length with e | e; · rw [e] at hi; simp at hi
                                                        · exact e)
  have hy2 : y = z[i % z.size]! := by
    simp only [zerosOf, Array.toList_map, List.getElem?_map, Array.toList_range] at hy
    rw [List.getElem?_range hi] at hy
    simpa using hy.symm
  refine h.2 _ x y hx ?_
  rw [hy2, ← hl, Array.getElem?_toList, getElem!_pos z (i % l.length) (by omega)]
  simp [show i % l.length < z.size by omega]
theorem zeros_one {z : Array Value} (h : One z.toList) (h0 : 0 < z.size) (n : Nat) : One (zerosOf z n).toList := by
  intro y hy
  simp only [zerosOf, Array.toList_map, Array.toList_range, List.mem_map] at hy
  obtain ⟨i, _, rfl⟩ := hy
  have hp := Nat.mod_lt i h0
  rw [getElem!_pos z (i % z.size) hp]
  exact h _ (by simp)

theorem ok_buildSlice {gl : Fixed} {sc : Sc} {o : Oper} {t e : TypeId} {n sz : Nat} {ps : Array (Nat × Operand)} {l : List AVal} {vs : List AVal} (h : TabOk P T) (ho : o.op = .buildSlice t n ps) (hu : T.und t = some (.slice e)) (hz : T.zeroL e = some l) (hsz : T.size e = some sz)
    (hv : opds sc (ps.toList.map (·.2)) = some vs) (hc : (Nat.beq l.length sz && Nat.ble 1 (n * sz) && Nat.ble (n * sz) 16777216 && inside (repC n l) ((ps.toList.map (·.1)).map fun i => (i * sz, sz))) = true) :
    PrimOk P gl sc o (.new (pBuildSlice sz n (repC n l) ((ps.toList.map (·.1)).map fun i => (i * sz, sz)) vs)) := by
  simp only [Bool.and_eq_true] at hc
  obtain ⟨⟨⟨c1, c2⟩, c3⟩, c4⟩ := hc
  have c1 : l.length = sz := Nat.eq_of_beq_eq_true c1
  have c2 : 1 ≤ n * sz := Nat.le_of_ble_eq_true c2
  have c3 := Nat.le_of_ble_eq_true c3
  intro H kv hk
  obtain ⟨i, z, hi, hiz, hl, h1⟩ := h.zeroL hz
  obtain ⟨i', hi', hs⟩ := h.info hsz
  rw [hi] at hi'; injection hi' with hi'; subst hi'
  have hzl : z.cells.size = l.length := by have := (hl fun _ => none).1; simp at this; omega
  obtain ⟨r, ob, H', g1, g2, g3⟩ := pBuildSlice_ok (P := P) hk (h.und hu) hi hiz hs c2 c3 (by rw [repC_len, c1]) (fun ρ => by rw [← c1]; exact zeros_rel (hl ρ) n)
    (zeros_one h1 (by rw [hzl, c1]; rcases Nat.eq_zero_or_pos sz with q | q; · rw [q] at c2; simp at c2
                      · exact q) _) rfl (inside_all c4)
  refine ⟨r, ob, H', g1, g2, fun w ρ a hb ht => ?_⟩
  obtain ⟨cv, w', tot, obj, g4, g5, g6, g7⟩ := g3 w ρ (ps.map fun (i, x) => (i, a.eval x)) hb (by rw [parts_snd]; exact opds_ok ht hv) (parts_fst _ _)
  exact ⟨cv, w', tot, obj, by simp only [execOp, ho, Sem.run_bind, g4, Result.andThen_ok, Sem.run_pure], g5, g6, g7⟩
theorem ok_buildBytes {gl : Fixed} {sc : Sc} {o : Oper} {t e : TypeId} {n : Nat} {ps : Array (Nat × Operand)} {l : List AVal} {vs : List AVal} (h : TabOk P T) (ho : o.op = .buildSlice t n ps) (hu : T.und t = some (.slice e)) (hz : T.zeroL e = some l) (hsz : T.size e = some 1)
    (hv : opds sc (ps.toList.map (·.2)) = some vs) (hc : (Nat.beq l.length 1 && Nat.ble 1 (n * 1) && Nat.ble (n * 1) 16777216 && inside (repC n l) ((ps.toList.map (·.1)).map fun i => (i * 1, 1))) = true) :
    PrimOk P gl sc o (.new (pBuildBytes n (repC n l) ((ps.toList.map (·.1)).map fun i => (i * 1, 1)) vs)) := by
  simp only [Bool.and_eq_true] at hc
  obtain ⟨⟨⟨c1, c2⟩, c3⟩, c4⟩ := hc
  have c1 : l.length = 1 := Nat.eq_of_beq_eq_true c1
  have c2 : 1 ≤ n * 1 := Nat.le_of_ble_eq_true c2
  have c3 := Nat.le_of_ble_eq_true c3
  intro H kv hk
  obtain ⟨i, z, hi, hiz, hl, h1⟩ := h.zeroL hz
  obtain ⟨i', hi', hs⟩ := h.info hsz
  rw [hi] at hi'; injection hi' with hi'; subst hi'
  have hzl : z.cells.size = l.length := by have := (hl fun _ => none).1; simp at this; omega
  obtain ⟨r, ob, H', g1, g2, g3⟩ := pBuildBytes_ok (P := P) hk (h.und hu) hi hiz hs (by omega) (by omega) (by rw [repC_len, c1]; omega) (fun ρ => by have := zeros_rel (hl ρ) n; rw [c1] at this; exact this)
    (zeros_one h1 (by omega) _) rfl (inside_all c4)
  refine ⟨r, ob, H', g1, g2, fun w ρ a hb ht => ?_⟩
  obtain ⟨cv, w', tot, obj, g4, g5, g6, g7⟩ := g3 w ρ (ps.map fun (i, x) => (i, a.eval x)) hb (by rw [parts_snd]; exact opds_ok ht hv) (parts_fst _ _)
  exact ⟨cv, w', tot, obj, by simp only [execOp, ho, Sem.run_bind, g4, Result.andThen_ok, Sem.run_pure], g5, g6, g7⟩

theorem ok_func {gl : Fixed} {sc : Sc} {o : Oper} {f : FuncId} {first cap : Array Operand} {vs : List AVal} (ho : o.op = .makeFunc (.func f) first cap) (hv : opds sc (first.toList ++ cap.toList) = some vs) : PrimOk P gl sc o (.val (pFunc f first.size vs)) := by
  intro kv hk
  obtain ⟨r, g1, g2⟩ := pFunc_ok (P := P) hk
  refine ⟨r, g1, fun w ρ a ht => ?_⟩
  obtain ⟨cv, g3, g4⟩ := g2 w ρ (first.map a.eval) (cap.map a.eval) (by have := opds_ok ht hv; simpa using this) (by simp)
  exact ⟨cv, by simp only [execOp, ho, Sem.run_bind, g3, Result.andThen_ok, Sem.run_pure], g4⟩

/-! calls -/
theorem args_rel {sc : Sc} {ρ : Ren} {a : Act} (ht : TRel ρ sc a.tmps) {c : Call} {vs : List AVal} (hv : opds sc c.args.toList = some vs) : LRel ρ vs (c.args.map a.eval).toList := by
  have := opds_ok ht hv; simpa using this
theorem ok_call {gl : Fixed} {sc : Sc} {o : Oper} {c : Call} {f : FuncId} {vs : List AVal} (ho : o.op = .call c) (hc : c.callee = .value (.func f)) (hv : opds sc c.args.toList = some vs) : PrimOk P gl sc o (.act fun rec => rec f vs) := by
  intro rec hrec H kv hk
  obtain ⟨r, H', g1, g2⟩ := hrec f vs H kv hk
  refine ⟨r, H', g1, fun w ρ a hr hf ht => ?_⟩
  have : (execOp a.eval o).run P w = (callFunc f (c.args.map a.eval)).run P w := by
    simp [execOp, ho, resolve, hc, Act.eval, Deferred.ofValue, invoke]
  rw [this]
  exact g2 w ρ _ hr hf (args_rel ht hv) o a
theorem ok_callV {gl : Fixed} {sc : Sc} {o : Oper} {c : Call} {x : Operand} {v : AVal} {vs : List AVal} (ho : o.op = .call c) (hc : c.callee = .value x) (hx : opd sc x = some v) (hv : opds sc c.args.toList = some vs) : PrimOk P gl sc o (.act fun rec => pCallV rec v vs) := by
  intro rec hrec H kv hk
  obtain ⟨f, as, cs, e, hk2⟩ := onFunc_one hk
  rw [appL_eq, appL_eq] at hk2
  obtain ⟨r, H', g1, g2⟩ := hrec f _ H kv hk2
  refine ⟨r, H', g1, fun w ρ a hr hf ht => ?_⟩
  have hx2 := opd_ok ht hx
  subst e
  generalize hq : a.eval x = cx at hx2
  cases hx2 with
  | func hla ha hlc hcc =>
    rename_i va vc
    have : (execOp a.eval o).run P w = (callFunc f (va ++ c.args.map a.eval ++ vc)).run P w := by
      simp [execOp, ho, resolve, hc, hq, Deferred.ofValue, invoke]
    rw [this]
    refine g2 w ρ _ hr hf ?_ o a
    have h1 : LRel ρ as va.toList := ⟨by simpa using hla, fun i x y hx hy => ha i x y hx (by simpa using hy)⟩
    have h2 : LRel ρ cs vc.toList := ⟨by simpa using hlc, fun i x y hx hy => hcc i x y hx (by simpa using hy)⟩
    have := h1.append ((args_rel ht hv).append h2)
    simpa using this

theorem invoke_one {G : Glob} {rec : Rec} {t : Nat} {v : AVal} {vs : List AVal} {H : Heap} {kv : K} {ms : List Meth} (h : pInvoke G ms rec (.z (.iface t v)) vs H kv = 1) :
    ∃ m ∈ ms, m.t = t ∧ ((m.deref = 0 ∧ rec m.f (v :: vs) H kv = 1) ∨ (m.deref = 1 ∧ pLoad G v H (fun v => rec m.f (v :: vs) H kv) = 1) ∨ ∃ n, m.deref = n + 2 ∧ pLoadN n v H (fun v => rec m.f (v :: vs) H kv) = 1) := by
  induction ms with
  | nil => cases h
  | cons m ms ih =>
    obtain ⟨u, f, d⟩ := m
    have h : ifB (Nat.beq t u) (Nat.rec (rec f (v :: vs) H kv) (fun d _ => Nat.rec (pLoad G v H fun v => rec f (v :: vs) H kv) (fun d _ => pLoadN d v H fun v => rec f (v :: vs) H kv) d) d) (pInvoke G ms rec (.z (.iface t v)) vs H kv) = 1 := h
    rcases ifB_one h with ⟨e, h1⟩ | ⟨e, h1⟩
    · have e := Nat.eq_of_beq_eq_true e
      refine ⟨_, List.mem_cons_self, e.symm, ?_⟩
      cases d with
      | zero => exact .inl ⟨rfl, h1⟩
      | succ d => cases d with
        | zero => exact .inr (.inl ⟨rfl, h1⟩)
        | succ n => exact .inr (.inr ⟨n, rfl, h1⟩)
    · obtain ⟨m, hm, q⟩ := ih h1
      exact ⟨m, List.mem_cons_of_mem _ hm, q⟩

theorem wrap_some (ts : Array TypeId) (t : TypeId) (ad : Addr) (s m : ByteArray) : Builtin.ssaWrapNilChk_ ts t #[.pointer (some ad), .string s, .string m] = Pure.pure (.pointer (some ad)) := rfl
theorem run_method {t : TypeId} {name : String} {i : TypeInfo} {mt : Method} {ptr : Bool} {d : TypeDesc} {f : FuncId} {n : Nat} (hi : P.info? t = some i) (hm : i.methods.find? (·.name == name) = some mt) (hp : mt.path.isEmpty = true) (hf : mt.func = some (f, ptr)) (hd : P.underlying t = some d) {cv r : Value} {w : World}
    (hr : (receiverAt t (.val cv) ptr (some ((name.splitOn ".").getLastD name))).run P w = .ok r w) : (method (n + 1) t cv name).run P w = .ok (f, r) w := by
  have hp' : mt.path = #[] := by simpa using hp
  unfold method
  simp only [Sem.run_bind, run_info hi, Result.andThen_ok, hm, hp', follow, Sem.run_pure, hf, hr, Array.isEmpty_empty, if_true]

theorem ok_invoke {gl : Fixed} {G : Glob} (hG : GOk gl G) (h : TabOk P T) {sc : Sc} {o : Oper} {c : Call} {x : Operand} {name : String} {v : AVal} {vs : List AVal} (ho : o.op = .call c) (hc : c.callee = .invoke x name) (hx : opd sc x = some v) (hv : opds sc c.args.toList = some vs) :
    PrimOk P gl sc o (.act fun rec => pInvoke G (methsOf T.ms name) rec v vs) := by
  intro rec hrec H kv hk
  have hk0 : onIface v _ = 1 := hk
  obtain ⟨t, u, e, _⟩ := onIface_one hk0
  subst e
  obtain ⟨m, hm, et, hcase⟩ := invoke_one hk
  obtain ⟨i, mt, ptr, d, hi, hfind, hpath, hfunc, hd, hder⟩ := h.ms name m hm
  subst et
  -- what is run
  have key : ∀ (w : World) (ρ : Ren) (a : Act) (u' : AVal) (rcv : Value), TRel ρ sc a.tmps → VRel ρ u' rcv → (∀ cu, VRel ρ u cu → a.eval x = .iface m.t cu → (receiverAt m.t (.val cu) ptr (some ((name.splitOn ".").getLastD name))).run P w = .ok rcv w) →
      ∃ args : Array Value, (execOp a.eval o).run P w = (callFunc m.f args).run P w ∧ LRel ρ (u' :: vs) args.toList := by
    intro w ρ a u' rcv ht hu hrun
    have hx2 := opd_ok ht hx
    generalize hq : a.eval x = cx at hx2
    cases hx2 with
    | iface hv2 =>
      rename_i cu
      have hm := run_method (n := P.types.size + Made.depth - 1) hi hfind hpath hfunc hd (hrun cu hv2 hq)
      have hn : P.types.size + Made.depth - 1 + 1 = P.types.size + Made.depth := by
        have : 0 < Made.depth := by decide
        omega
      rw [hn] at hm
      refine ⟨#[rcv] ++ c.args.map a.eval, ?_, ?_⟩
      · have e1 : (#[Value.iface m.t cu] ++ c.args.map a.eval)[0]? = some (.iface m.t cu) := by rw [Array.getElem?_append_left (Nat.zero_lt_one)]; rfl
        have e2 : (#[Value.iface m.t cu] ++ c.args.map a.eval).extract 1 (#[Value.iface m.t cu] ++ c.args.map a.eval).size = c.args.map a.eval := by
          apply Array.toList_inj.mp; simp; exact List.take_of_length_le (by simp)
        simp only [execOp, ho, resolve, hc, hq, invoke, Sem.run_bind, Sem.run_pure, Result.andThen_ok, e1, e2, callMethod, run_program, hm]
      · have := LRel.cons hu (args_rel ht hv)
        simpa using this
  rcases hcase with ⟨e0, hk2⟩ | ⟨e0, hk2⟩ | ⟨n, e0, hk2⟩
  · rw [e0] at hder
    obtain ⟨r, H', g1, g2⟩ := hrec m.f _ H kv hk2
    refine ⟨r, H', g1, fun w ρ a hr hf ht => ?_⟩
    have hx2 := opd_ok ht hx
    generalize hq : a.eval x = cx at hx2
    cases hx2 with
    | iface hv2 =>
      rename_i cu
      obtain ⟨args, k1, k2⟩ := key w ρ a u cu ht hv2 (fun cu' _ e => by
        rw [hq] at e; injection e with _ e; subst e
        unfold receiverAt
        simp only [Sem.run_bind, run_und hd, Result.andThen_ok]
        cases d <;> simp only at hder <;> subst hder <;> simp [Place.get])
      rw [k1]
      exact g2 w ρ _ hr hf k2 o a
  · rw [e0] at hder
    obtain ⟨hp, e, de, hde, hue, hag⟩ := hder
    subst hp hde
    obtain ⟨y, hy, hreads⟩ := pLoad_ok (P := P) (gl := gl) hk2 hG hue hag
    obtain ⟨r, H', g1, g2⟩ := hrec m.f _ H kv hy
    refine ⟨r, H', g1, fun w ρ a hr hf ht => ?_⟩
    have hx2 := opd_ok ht hx
    generalize hq : a.eval x = cx at hx2
    cases hx2 with
    | iface hv2 =>
      rename_i cu
      obtain ⟨cv, hrd, hcv⟩ := hreads w ρ cu hr hv2
      obtain ⟨args, k1, k2⟩ := key w ρ a y cv ht hcv (fun cu' _ e => by
        rw [hq] at e; injection e with _ e; subst e
        have hpt : ∃ ad, cu = .pointer (some ad) := by
          rcases onPtr_one hk2 with ⟨b, o', e1, _⟩ | ⟨g, o', e1, _⟩ <;> subst e1 <;> cases hv2 <;> exact ⟨_, rfl⟩
        obtain ⟨ad, rfl⟩ := hpt
        unfold receiverAt
        simp only [Sem.run_bind, run_und hd, Result.andThen_ok, Place.get, Sem.run_pure, strVal, wrap_some, asAddr]
        have hrd : (do loadVar e (← Instr.sureAddr (.pointer (some ad))) : Sem Value).run P w = .ok cv w := hrd
        simpa [Instr.sureAddr] using hrd)
      rw [k1]
      exact g2 w ρ _ hr hf k2 o a
  · rw [e0] at hder
    obtain ⟨hp, e, de, ie, hde, hue, hag, hie, hsz⟩ := hder
    subst hp hde
    obtain ⟨y, hy, hreads⟩ := pLoadN_ok (P := P) (gl := gl) hk2 hue hag hie hsz
    obtain ⟨r, H', g1, g2⟩ := hrec m.f _ H kv hy
    refine ⟨r, H', g1, fun w ρ a hr hf ht => ?_⟩
    have hx2 := opd_ok ht hx
    generalize hq : a.eval x = cx at hx2
    cases hx2 with
    | iface hv2 =>
      rename_i cu
      obtain ⟨cv, hrd, hcv⟩ := hreads w ρ cu hr hv2
      obtain ⟨args, k1, k2⟩ := key w ρ a y cv ht hcv (fun cu' _ e => by
        rw [hq] at e; injection e with _ e; subst e
        have hpt : ∃ ad, cu = .pointer (some ad) := by
          rcases onPtr_one hk2 with ⟨b, o', e1, _⟩ | ⟨g, o', e1, _⟩ <;> subst e1 <;> cases hv2 <;> exact ⟨_, rfl⟩
        obtain ⟨ad, rfl⟩ := hpt
        unfold receiverAt
        simp only [Sem.run_bind, run_und hd, Result.andThen_ok, Place.get, Sem.run_pure, strVal, wrap_some, asAddr]
        have hrd : (do loadVar e (← Instr.sureAddr (.pointer (some ad))) : Sem Value).run P w = .ok cv w := hrd
        simpa [Instr.sureAddr] using hrd)
      rw [k1]
      exact g2 w ρ _ hr hf k2 o a

end Go.Proofs.YtmgigdklcaepdaaGreatDoor.Ax
end
section
namespace Go.Proofs.YtmgigdklcaepdaaGreatDoor.Ax
set_option linter.unusedVariables false
set_option linter.unusedSimpArgs false

variable {P : Program} {T : Tab}

theorem fillT_one {c : List AVal} : ∀ {n i : Nat} {t : Trie (List AVal)} {k : Trie (List AVal) → Nat}, fillT c n i t k = 1 → ∃ t', k t' = 1 ∧ ∀ j, t'.look j = if i ≤ j ∧ j < i + n then some c else t.look j
  | 0, i, t, k, h => ⟨t, h, fun j => by rw [if_neg (by omega)]⟩
  | n + 1, i, t, k, h => by
    obtain ⟨t1, h1, h2⟩ := Trie.ins_one t h
    obtain ⟨t2, h3, h4⟩ := fillT_one (n := n) (i := i + 1) h1
    refine ⟨t2, h3, fun j => ?_⟩
    rw [h4, h2]
    by_cases e : j = i
    · subst e
      rw [if_neg (by omega), if_pos rfl, if_pos (by omega)]
    · by_cases e2 : i + 1 ≤ j ∧ j < i + 1 + n
      · rw [if_pos e2, if_pos (by omega)]
      · rw [if_neg e2, if_neg e, if_neg (by omega)]
theorem repC_at {z : List AVal} : ∀ {c j : Nat}, j < c → ((repC c z).drop (j * z.length)).take z.length = z
  | 0, j, h => by omega
  | c + 1, 0, h => by simp [repC]
  | c + 1, j + 1, h => by
    have : (repC (c + 1) z).drop ((j + 1) * z.length) = (repC c z).drop (j * z.length) := by
      show (z ++ repC c z).drop _ = _
      rw [Nat.succ_mul, Nat.add_comm, List.drop_length_add_append]
    rw [this]
    exact repC_at (by omega)
theorem bytesOf_zero : ∀ n, bytesOf n 0 = List.replicate n 0
  | 0 => rfl
  | n + 1 => by
    show UInt8.ofNat (0 % 256) :: bytesOf n (0 / 256) = _
    rw [Nat.zero_div, bytesOf_zero n]
    rfl

theorem ok_makeRow {gl : Fixed} {sc : Sc} {o : Oper} {t e : TypeId} {x y : Operand} {l : List AVal} {v u : AVal} {sz bs : Nat} (h : TabOk P T) (ho : o.op = .makeSlice t x y) (hu : T.und t = some (.slice e)) (hz : T.zeroL e = some l) (hsz : T.size e = some sz) (hbs : T.bytes e = some bs)
    (hc : (Nat.beq l.length sz && Nat.ble 1 sz && Nat.ble bs 268435456) = true) (hv : opd sc x = some v) (hy : opd sc y = some u) : PrimOk P gl sc o (.new (pMakeRow l sz v u)) := by
  simp only [Bool.and_eq_true] at hc
  obtain ⟨⟨c1, c2⟩, c3⟩ := hc
  have c1 : l.length = sz := Nat.eq_of_beq_eq_true c1
  have c2 : 1 ≤ sz := Nat.le_of_ble_eq_true c2
  have c3 : bs ≤ 268435456 := Nat.le_of_ble_eq_true c3
  obtain ⟨i, z, hi, hiz, hl, h1⟩ := h.zeroL hz
  obtain ⟨i', hi', hs⟩ := h.info hsz
  rw [hi] at hi'; injection hi' with hi'; subst hi'
  obtain ⟨i', hi', hb⟩ := h.bytes hbs
  rw [hi] at hi'; injection hi' with hi'; subst hi'
  have hzl : z.cells.size = l.length := by have := (hl fun _ => none).1; simp at this; omega
  intro H kv hk
  obtain ⟨j1, n1, e1, k1⟩ := onInt_one hk
  obtain ⟨l1, rfl, k2⟩ := natI_one k1
  obtain ⟨j2, n2, e2, k3⟩ := onInt_one k2
  obtain ⟨c, rfl, k4⟩ := natI_one k3
  obtain ⟨q, k5⟩ := ifB_true k4 (by decide)
  obtain ⟨q1, q2⟩ := andB_true q
  have q1 := Nat.le_of_ble_eq_true q1
  have q2 := Nat.le_of_ble_eq_true q2
  obtain ⟨t', k6, hlook⟩ := fillT_one k5
  obtain ⟨H', k7, hn, hf⟩ := Heap.new_one k6
  refine ⟨_, _, H', k7, ⟨hn, hf⟩, fun w ρ a hbb ht => ?_⟩
  have cx := int_inv (opd_ok ht hv) e1
  have cy := int_inv (opd_ok ht hy) e2
  have hbc : i.bytes * c ≤ 281474976710656 := by
    have := Nat.mul_le_mul (show i.bytes ≤ 268435456 by omega) q2
    omega
  have hbc2 : (i.bytes : Int) * (Int.ofNat c) ≤ 281474976710656 := by
    have : ((i.bytes * c : Nat) : Int) ≤ 281474976710656 := by omega
    rwa [Int.natCast_mul] at this
  have hr := run_make (P := P) w t e i z (h.und hu) hi hiz j1 j2 (.ofNat l1) (.ofNat c) (Int.natCast_nonneg _) (Int.ofNat_le.mpr q1) hbc2 (show ((c : Nat) : Int) ≤ _ by omega)
  have hsize : (madeCells z.cells (c * i.size)).size = c * sz := by rw [size_madeCells, hs]
  have hpush : Push (.cells (madeCells z.cells (c * i.size)) e) w (w.alloc (.cells (madeCells z.cells (c * i.size)) e)) := ⟨rfl, rfl, rfl, rfl⟩
  have hmade : madeCells z.cells (c * i.size) = zerosOf z.cells (c * l.length) := by rw [hs, ← c1]; rfl
  have hrl : (repC c l).length = c * sz := by rw [repC_len, c1]
  have htake : (madeCells z.cells (c * i.size)).toList.take (repC c l).length = (zerosOf z.cells (c * l.length)).toList := by
    rw [hmade, List.take_of_length_le]; rw [hrl, ← c1]; simp [zerosOf_len]
  refine ⟨_, _, (madeCells z.cells (c * i.size)).size, _, ?_, hpush, elems_obj (t := .lf) (cs := repC c l) (m := c) hpush (.inl rfl) (by rw [htake]; exact zeros_rel (hl _) c) (by rw [htake]; exact zeros_one h1 (by omega) _) hrl (fun j => ?_) hrl (Nat.le_refl _), sl_new rfl q1 (by omega)⟩
  · simp only [execOp, ho, cx, cy, Sem.run_bind, hr, Result.andThen_ok, Sem.run_pure]
    rfl
  · rw [hlook]
    by_cases g : 0 ≤ j ∧ j < 0 + c
    · rw [if_pos g, if_pos g, Nat.sub_zero, ← c1, repC_at (by omega)]
    · rw [if_neg g, if_neg g]

theorem ok_makeByt {gl : Fixed} {sc : Sc} {o : Oper} {t e : TypeId} {x y : Operand} {v u : AVal} {bs : Nat} (h : TabOk P T) (ho : o.op = .makeSlice t x y) (hu : T.und t = some (.slice e)) (hz : T.zero e = some (.int .u8 (.ofNat 0))) (hsz : T.size e = some 1) (hbs : T.bytes e = some bs)
    (hc : Nat.ble bs 268435456 = true) (hv : opd sc x = some v) (hy : opd sc y = some u) : PrimOk P gl sc o (.new (pMakeByt v u)) := by
  have c3 : bs ≤ 268435456 := Nat.le_of_ble_eq_true hc
  obtain ⟨i, hi, hiz⟩ := h.zero hz
  obtain ⟨i', hi', hs⟩ := h.info hsz
  rw [hi] at hi'; injection hi' with hi'; subst hi'
  obtain ⟨i', hi', hb⟩ := h.bytes hbs
  rw [hi] at hi'; injection hi' with hi'; subst hi'
  intro H kv hk
  obtain ⟨j1, n1, e1, k1⟩ := onInt_one hk
  obtain ⟨l1, rfl, k2⟩ := natI_one k1
  obtain ⟨j2, n2, e2, k3⟩ := onInt_one k2
  obtain ⟨c, rfl, k4⟩ := natI_one k3
  obtain ⟨q, k5⟩ := ifB_true k4 (by decide)
  obtain ⟨q1, q2⟩ := andB_true q
  have q1 := Nat.le_of_ble_eq_true q1
  have q2 := Nat.le_of_ble_eq_true q2
  obtain ⟨H', k7, hn, hf⟩ := Heap.new_one k5
  refine ⟨_, _, H', k7, ⟨hn, hf⟩, fun w ρ a hbb ht => ?_⟩
  have cx := int_inv (opd_ok ht hv) e1
  have cy := int_inv (opd_ok ht hy) e2
  have hbc : i.bytes * c ≤ 281474976710656 := by
    have := Nat.mul_le_mul (show i.bytes ≤ 268435456 by omega) q2
    omega
  have hbc2 : (i.bytes : Int) * (Int.ofNat c) ≤ 281474976710656 := by
    have : ((i.bytes * c : Nat) : Int) ≤ 281474976710656 := by omega
    rwa [Int.natCast_mul] at this
  have hr := run_make (P := P) w t e i _ (h.und hu) hi hiz j1 j2 (.ofNat l1) (.ofNat c) (Int.natCast_nonneg _) (Int.ofNat_le.mpr q1) hbc2 (show ((c : Nat) : Int) ≤ _ by omega)
  generalize hmc : madeCells (Value.int .u8 (.ofNat 0)).cells ((Int.ofNat c).toNat * i.size) = mc at hr
  have hsize : mc.size = c := by rw [← hmc, size_madeCells, hs]; simp
  have hpush : Push (.cells mc e) w (w.alloc (.cells mc e)) := ⟨rfl, rfl, rfl, rfl⟩
  refine ⟨_, _, mc.size, _, ?_, hpush, bytes_obj hpush (.inl rfl) (Nat.pow_pos (by decide)) (by omega) (fun j b hb' => ?_), sl_new rfl q1 (by omega)⟩
  · simp only [execOp, ho, cx, cy, Sem.run_bind, hr, Result.andThen_ok, Sem.run_pure]
    rfl
  · rw [bytesOf_zero, List.getElem?_replicate] at hb'
    split at hb'
    · rename_i hj
      injection hb' with hb'; subst hb'
      rw [← hmc]
      have hj' : j < (Int.ofNat c).toNat * i.size := by rw [hs]; simpa using hj
      simp [madeCells, hj', Value.cells]
      exact ⟨j, Array.getElem?_eq_some_iff.mpr ⟨by simpa using hj', by simp⟩, by simp [Nat.mod_one]⟩
    · cases hb'
end Go.Proofs.YtmgigdklcaepdaaGreatDoor.Ax
end
section
namespace Go.Proofs.YtmgigdklcaepdaaGreatDoor.Ax
set_option linter.unusedVariables false
set_option linter.unusedSimpArgs false

variable {P : Program} {T : Tab}

theorem repL_eq {z : List AVal} : ∀ (n : Nat) (k : List AVal → Nat), repL z n k = k (repC n z)
  | 0, k => rfl
  | n + 1, k => by
    show repL z n (fun l => appL z l k) = _
    rw [repL_eq n, appL_eq]
    rfl
theorem pClear_ok {gl : Fixed} {l : List AVal} {x : AVal} {H : Heap} {kv : K} (h : pClear l x H kv = 1) {t e : TypeId} {i : TypeInfo} {z : Value} (ht : P.underlying t = some (.slice e)) (hi : P.info? e = some i) (hz : i.zero = some z)
    (hl : ∀ ρ, LRel ρ l z.cells.toList) (h1 : One z.cells.toList) (h0 : 0 < l.length) (ty : TypeId) (tys : Array TypeId) (hts : tys[0]? = some t) :
    ∃ v H', kv v H' = 1 ∧ Acts1 P gl H (fun x => Builtin.clear_ tys ty #[x]) x v H' := by
  have hzl : z.cells.size = l.length := by have := (hl fun _ => none).1; simp at this; omega
  rcases onSl_one h with ⟨b, o, n, es, c, rfl, g1⟩ | ⟨rfl, g1⟩
  · rcases ifB_one g1 with ⟨q, g2⟩ | ⟨q, g2⟩
    · have q := Nat.eq_of_beq_eq_true q
      subst q
      refine ⟨_, H, g2, fun w ρ cx hr hf rx => ?_⟩
      cases rx with
      | sl hb hc hl h0 ht2 =>
        refine ⟨undef, ρ, w, ?_, Grow.refl _ _ _ _, hr, .undef⟩
        simp [Builtin.clear_, Sem.run_bind, run_und ht, hts, undef]
      | slE hb hc ht2 =>
        refine ⟨undef, ρ, w, ?_, Grow.refl _ _ _ _, hr, .undef⟩
        simp [Builtin.clear_, Sem.run_bind, run_und ht, hts, undef]
    · rw [repL_eq] at g2
      obtain ⟨H', g3, hn, hst⟩ := stCells_one (P := P) g2
      refine ⟨_, H', g3, fun w ρ cx hr hf rx => ?_⟩
      have hn0 : n ≠ 0 := fun e => by subst e; cases q
      obtain ⟨m, rfl⟩ : ∃ m, n = m + 1 := ⟨n - 1, by omega⟩
      cases rx with
      | sl hb hc hle h02 ht2 =>
        obtain ⟨ad, w', e0, e1, q1, q2⟩ := hst gl w ρ _ _ hr (VRel.p hb) (zeros_rel (hl ρ) (m + 1)) (zeros_one h1 (by omega) _)
        injection e0 with e0
        injection e0 with e0
        subst e0
        refine ⟨undef, ρ, w', ?_, q2, q1, .undef⟩
        have ez : Builtin.zeroCells z.cells (m + 1) = zerosOf z.cells ((m + 1) * l.length) := by rw [← hzl]; rfl
        simp [Builtin.clear_, Sem.run_bind, run_und ht, hts, undef, run_zero hi hz, ez, e1]
  · refine ⟨_, H, g1, fun w ρ cx hr hf rx => ?_⟩
    cases rx with
    | sl0 =>
      refine ⟨undef, ρ, w, ?_, Grow.refl _ _ _ _, hr, .undef⟩
      simp [Builtin.clear_, Sem.run_bind, run_und ht, hts, undef]
theorem bact_1 {gl : Fixed} {sc : Sc} {o : Oper} {c : Call} {b : Builtin} {v : AVal} {f : Heap → K → Nat} {s : Value → Sem Value} (ho : o.op = .call c) (hb : c.callee = .builtin b) (hv : opds sc c.args.toList = some [v])
    (hs : ∀ cs x, builtin b c.argTypes o.type cs #[x] = (do pure (Next.value (← s x))))
    (h : ∀ H kv, f H kv = 1 → ∃ r H', kv r H' = 1 ∧ Acts1 P gl H s v r H') : PrimOk P gl sc o (.act fun _ => f) := by
  intro rec _ H kv hk
  obtain ⟨x, hx, hv⟩ := opds_1 hv
  obtain ⟨r, H', h1, h2⟩ := h H kv hk
  refine ⟨r, H', h1, fun w ρ a hr hf ht next Q hn => ?_⟩
  obtain ⟨cv, ρ', w', g1, g2, g3, g4⟩ := h2 w ρ _ hr (hf.fresh _) (opd_ok ht hv)
  have : (execOp a.eval o).run P w = .ok (.value cv) w' := by obtain ⟨cs, e⟩ := run_builtin (P := P) ho hb a.eval w; rw [e, args_1 hx, hs]; simp only [Sem.run_bind, g1, Result.andThen_ok, Sem.run_pure]
  rw [this]
  exact hn cv ρ' w' g2 g3 g4
theorem ok_clear {gl : Fixed} {sc : Sc} {o : Oper} {c : Call} {v : AVal} {t e : TypeId} {l : List AVal} (h : TabOk P T) (ho : o.op = .call c) (hb : c.callee = .builtin .clear) (hv : opds sc c.args.toList = some [v]) (h0 : c.argTypes[0]? = some t) (ht : T.und t = some (.slice e)) (hz : T.zeroL e = some l) (hp : Nat.ble 1 l.length = true) :
    PrimOk P gl sc o (.act fun _ => pClear l v) := by
  obtain ⟨i, z, hi, hiz, hl, h1⟩ := h.zeroL hz
  exact bact_1 (s := fun x => Builtin.clear_ c.argTypes o.type #[x]) ho hb hv (fun _ _ => rfl) fun H kv hk => pClear_ok hk (h.und ht) hi hiz hl h1 (Nat.le_of_ble_eq_true hp) o.type c.argTypes h0
end Go.Proofs.YtmgigdklcaepdaaGreatDoor.Ax
end
section
namespace Go.Proofs.YtmgigdklcaepdaaGreatDoor.Ax
set_option linter.unusedVariables false
set_option linter.unusedSimpArgs false

variable {P : Program} {T : Tab}

theorem TabOk.keyK (h : TabOk P T) {t : Nat} {ks : List Nat} (hk : T.keyK t = some ks) : ∃ k e, P.underlying t = some (.map k e) ∧ KeyT P k ks := by
  unfold Tab.keyK at hk
  split at hk
  · rename_i k e hu
    refine ⟨k, e, h.und hu, ?_⟩
    split at hk
    · rename_i hs
      injection hk with hk; subst hk
      exact .inl ⟨rfl, h.und hs⟩
    · rename_i fs hs
      split at hk
      · rename_i hc
        have hf := h.kinds hk
        refine .inr ⟨fs, h.und hs, hf, ?_, (h.eq _ hc.1).1⟩
        intro e; subst e
        cases hl : fs.toList with
        | nil => exact hc.2 hl
        | cons f r =>
          rw [hl] at hk
          unfold Tab.kinds at hk
          split at hk
          · split at hk <;> simp at hk
          · cases hk
      · cases hk
    · cases hk
  · cases hk

theorem TabOk.plain (h : TabOk P T) {t : Nat} (hk : T.plain t = true) : ∃ d, P.underlying t = some d ∧ ∀ ms, d ≠ .interface ms := by
  unfold Tab.plain at hk
  cases hu : T.und t with
  | none => simp [hu] at hk
  | some d =>
    refine ⟨d, h.und hu, ?_⟩
    rw [hu] at hk
    intro ms e; subst e; cases hk
theorem TabOk.app (h : TabOk P T) {ts : Array TypeId} {n : Nat} (hk : T.app ts = some n) : ∃ t u e i z, ts = #[t, u] ∧ AppT P t u e i z n ∧ 0 < n := by
  unfold Tab.app at hk
  split at hk
  · rename_i t u hts
    split at hk
    · rename_i e hu
      split at hk
      · rename_i i hl
        split at hk
        · rename_i z hz
          split at hk
          · rename_i hc
            obtain ⟨c1, c2, c3, c4⟩ := hc
            injection hk with hk; subst hk
            refine ⟨t, u, e, i, z, Array.toList_inj.mp hts, ⟨h.und hu, ?_, h.ty _ _ hl, hz, rfl, c1, c2⟩, c3⟩
            cases hd : T.und u with
            | none => rw [hd] at c4; cases c4
            | some d =>
              refine ⟨d, h.und hd, ?_⟩
              rw [hd] at c4
              cases d <;> first | exact .inl rfl | exact .inr ⟨_, rfl⟩ | cases c4
          · cases hk
        · cases hk
      · cases hk
    · cases hk
  · cases hk

theorem opdO_some {sc : Sc} {x : Option Operand} {h : AVal} (e : opdO sc x = some (some h)) : (some h : Option AVal).isSome = true := rfl

set_option maxHeartbeats 1000000 in
theorem denOp_ok {gl : Fixed} {G : Glob} (hG : GOk gl G) (h : TabOk P T) (sc : Sc) (o : Oper) : PrimOk P gl sc o (denOp T G sc o) := by
  cases hop : o.op <;> simp only [denOp, hop] <;> try exact True.intro
  case move x => exact primOk_1 fun v hv => ok_move (.inl hop) hv
  case assign x => exact primOk_1 fun v hv => ok_move (.inr hop) hv
  case pick c a b => exact primOk_3 fun v u t hv hu ht => ok_pick hop hv hu ht
  case alloc e => exact primOk_o fun l hl => ok_alloc h hop hl
  case box e x => exact primOk_1 fun v hv => ok_box hop hv
  case build t ps =>
    refine primOk_o fun z hz => primOk_L fun vs hv => ?_
    split
    · rename_i fs hu
      refine primOk_o fun pa hpa => primOk_o fun pl hpl => ?_
      split
      · rename_i hb; exact ok_buildS h hop hz hu hpa hpl hb hv
      · trivial
    · rename_i n e hu
      refine primOk_o fun sz hsz => ?_
      split
      · rename_i hb; exact ok_buildA h hop hz hu hsz hb hv
      · trivial
    · trivial
  case buildSlice t n ps =>
    split
    · rename_i e hu
      split
      · rename_i hps
        refine primOk_o fun sz hsz => ?_
        obtain ⟨i, hi, hs⟩ := h.info hsz
        split
        · split
          · exact ok_build0 hop hps (h.und hu) hi 1 _ (.inr ⟨rfl, rfl⟩)
          · trivial
        · exact ok_build0 hop hps (h.und hu) hi sz _ (.inl rfl)
      refine primOk_o fun z hz => primOk_o fun sz hsz => primOk_L fun vs hv => ?_
      split
      · rename_i hc
        split
        · split
          · exact ok_buildBytes h hop hu hz hsz hv hc
          · trivial
        · exact ok_buildSlice h hop hu hz hsz hv hc
      · trivial
    · trivial
  case load t x =>
    refine primOk_o fun a ha => primOk_1 fun v hv => ?_
    obtain ⟨d, hd, hag⟩ := h.agg ha
    split
    · refine primOk_o fun n hn => ?_
      obtain ⟨i, hi, hs⟩ := h.info hn
      exact ok_loadN hop hv hd hag hi hs
    · exact ok_load hG hop hv hd hag
  case store t a x =>
    refine primOk_o fun n hn => primOk_2 fun v u hv hu => ?_
    obtain ⟨i, hi, hs⟩ := h.info hn
    exact ok_store hop hi hs hv hu
  case nilCheck x => exact primOk_1 fun v hv => ok_nil hop hv
  case binOp op t x y yt => exact bin_ok h hop
  case unOp op t x =>
    refine primOk_1 fun v hv => ?_
    split
    · exact ok_not hop hv
    · exact ok_neg hop hv
    · exact ok_com hop hv
    · trivial
  case convert s d x =>
    refine primOk_1 fun v hv => ?_
    split
    · rename_i j k h1 h2; exact ok_conv hop (h.und h1) (h.und h2) hv
    · rename_i e h1 h2
      split
      · rename_i he; exact ok_convBS hop (h.und h1) (h.und he) (h.und h2) hv
      · trivial
    · rename_i e h1 h2
      split
      · rename_i he; exact ok_convSB hop (h.und h1) (h.und h2) (h.und he) hv
      · trivial
    · rename_i h1 h2; exact ok_convSS hop (h.und h1) (h.und h2) hv
    · trivial
  case makeInterface t x =>
    refine primOk_1 fun v hv => ?_
    split
    · rename_i hp; obtain ⟨d, hd, hn⟩ := h.plain hp; exact ok_iface hop hd (by cases d <;> first | rfl | exact absurd rfl (hn _)) hv
    · trivial
  case makeFunc f first cap =>
    cases f <;> try exact True.intro
    exact primOk_L fun vs hv => ok_func hop hv
  case makeMap t r =>
    cases r <;> try exact True.intro
    exact ok_makeMap hop
  case makeSlice t x y =>
    split
    · rename_i e hu
      split
      · refine primOk_o fun sz hsz => primOk_o fun z hz => primOk_o fun bs hbs => ?_
        split
        · rename_i hc
          exact primOk_2 fun v u hv hy => ok_makeByt h hop hu hz hsz hbs hc hv hy
        · trivial
      · refine primOk_o fun l hl => primOk_o fun sz hsz => primOk_o fun bs hbs => ?_
        split
        · rename_i hc
          exact primOk_2 fun v u hv hy => ok_makeRow h hop hu hl hsz hbs hc hv hy
        · trivial
    · trivial
  case slice t x lo hi mx =>
    refine primOk_1 fun v hv => primOk_o fun l hl => primOk_o fun m hm => ?_
    split
    · rename_i hu; exact ok_slice hop hv hl hm rfl fun kv hk => pSliceS_ok hk (h.und hu)
    · rename_i e hu
      refine primOk_o fun sz hsz => ?_
      obtain ⟨i, hi, hs⟩ := h.info hsz
      exact ok_slice hop hv hl hm rfl fun kv hk => pSlice_ok hk (h.und hu) hi hs
    · rename_i e q hu
      refine primOk_o fun sz hsz => primOk_1 fun u hq => ?_
      obtain ⟨i, hi, hs⟩ := h.info hsz
      split
      · rename_i hh
        exact ok_slice hop hv hl hm (by simp [opdO, hq]) fun kv hk => pSlice3_ok hk rfl (h.und hu) hi hs
      · trivial
    · rename_i n e hu
      refine primOk_o fun sz hsz => ?_
      obtain ⟨i, hi, hs⟩ := h.info hsz
      exact ok_sliceA hop hv hl hm (h.und hu) hi hs
    · trivial
  case fieldAddr t x f =>
    split
    · rename_i fs hu
      split
      · rename_i fl hf
        refine primOk_o fun sz hsz => ?_
        obtain ⟨i, hi, hs⟩ := h.info hsz
        split
        · trivial
        · rename_i hz
          refine primOk_1 fun v hv => ok_fieldAddr h hop hv (h.und hu) hf hi (by rw [hs]; exact fun e => hz e)
      · trivial
    · trivial
  case field t x f =>
    split
    · rename_i fs hu
      split
      · rename_i fl hf
        refine primOk_1 fun v hv => primOk_o fun a ha => ?_
        obtain ⟨d, hd, hag⟩ := h.agg ha
        split
        · refine primOk_o fun n hn => ?_
          obtain ⟨i, hi, hs⟩ := h.info hn
          exact ok_fieldN hop (h.und hu) hf hd hag hi hs hv
        · exact ok_field1 hop (h.und hu) hf hd hag hv
      · trivial
    · trivial
  case indexAddr t x i =>
    refine primOk_2 fun v u hv hu => ?_
    split
    · rename_i e he
      refine primOk_o fun sz hsz => ?_
      obtain ⟨i, hi, hs⟩ := h.info hsz
      exact ok_indexAddr hop (h.und he) hi hs hv hu
    · rename_i n e he
      refine primOk_o fun sz hsz => ?_
      obtain ⟨i, hi, hs⟩ := h.info hsz
      exact ok_indexAddrA hop (h.und he) hi hs hv hu
    · trivial
  case index t x i =>
    split
    · rename_i hs; exact primOk_2 fun v u hv hu => ok_index hop (h.und hs) hv hu
    · trivial
  case lookup t m k ok =>
    split
    · rename_i kt e hu
      refine primOk_o fun ks hk => primOk_o fun z hz => primOk_2 fun v u hv hu2 => ?_
      obtain ⟨k', e', hu', hK⟩ := h.keyK hk
      obtain ⟨i, zz, hi, hiz, hr⟩ := h.zeroV hz
      have := h.und hu
      rw [hu'] at this; injection this with this; injection this with e1 e2; subst e1 e2
      split
      · exact ok_lookupOk hop hu' hK hi hiz hr hv hu2
      · exact ok_lookup hop hu' hK hi hiz hr hv hu2
    · trivial
  case mapUpdate t m k v =>
    refine primOk_o fun ks hk => primOk_3 fun a b c ha hb hc => ?_
    obtain ⟨k', e', hu', hK⟩ := h.keyK hk
    exact ok_mapUpdate (.inl hop) hu' hK ha hb hc
  case insert t m k v =>
    refine primOk_o fun ks hk => primOk_3 fun a b c ha hb hc => ?_
    obtain ⟨k', e', hu', hK⟩ := h.keyK hk
    exact ok_mapUpdate (.inr hop) hu' hK ha hb hc
  case mapEntry t m k =>
    split
    · rename_i kt e hu
      refine primOk_o fun ks hk => primOk_o fun z hz => primOk_2 fun v u hv hu2 => ?_
      obtain ⟨k', e', hu', hK⟩ := h.keyK hk
      obtain ⟨i, zz, hi, hiz, hr⟩ := h.zeroV hz
      have := h.und hu
      rw [hu'] at this; injection this with this; injection this with e1 e2; subst e1 e2
      exact ok_mapEntry hop hu' hK hi hiz hr hv hu2
    · trivial
  case entryStore t m k v => exact primOk_3 fun a b c ha hb hc => ok_entryStore hop ha hb hc
  case range t x =>
    split
    · rename_i k e hu; exact primOk_1 fun v hv => ok_range hop (h.und hu) hv
    · trivial
  case next x b =>
    cases b <;> try exact True.intro
    exact primOk_1 fun v hv => ok_next hop hv
  case entry x => exact primOk_1 fun v hv => ok_entry hop hv
  case typeAssert x xt a ok =>
    cases ok <;> try exact True.intro
    refine primOk_1 fun v hv => ?_
    split
    · rename_i hp; obtain ⟨d, hd, hn⟩ := h.plain hp; exact ok_assert hop hd (by cases d <;> first | rfl | exact absurd rfl (hn _)) hv
    · trivial
  case extract x i => exact primOk_1 fun v hv => ok_extract hop hv
  case call cl =>
    refine primOk_L fun vs hv => ?_
    split
    · rename_i f hc; exact ok_call hop hc hv
    · rename_i x _ hc; exact primOk_1 fun v hx => ok_callV hop hc hx hv
    · rename_i x m hc; exact primOk_1 fun v hx => ok_invoke hG h hop hc hx hv
    · rename_i b hc
      have bindU : ∀ {d : TypeDesc}, (cl.argTypes[0]?).bind T.und = some d → ∃ t, cl.argTypes[0]? = some t ∧ T.und t = some d := by
        intro d hd
        cases h0 : cl.argTypes[0]? with
        | none => rw [h0] at hd; cases hd
        | some t => rw [h0] at hd; exact ⟨t, rfl, hd⟩
      split
      · rename_i hq; obtain ⟨t, h0, ht⟩ := bindU hq; exact ok_lenS hop hc hv h0 (h.und ht)
      · rename_i hq; obtain ⟨t, h0, ht⟩ := bindU hq; exact ok_lenSl hop hc hv h0 (h.und ht)
      · rename_i hq; obtain ⟨t, h0, ht⟩ := bindU hq; exact ok_lenM hop hc hv h0 (h.und ht)
      · rename_i hq; obtain ⟨t, h0, ht⟩ := bindU hq; exact ok_cap hop hc hv h0 (h.und ht)
      · refine primOk_o fun sz hsz => ?_
        obtain ⟨t, u, e, i, z, hts, hA, h0⟩ := h.app hsz
        exact ok_append hop hc hv hts hA h0
      · exact ok_min hop hc hv
      · exact ok_max hop hc hv
      · exact ok_min3 hop hc hv
      · exact ok_max3 hop hc hv
      · rename_i hq
        refine primOk_o fun ks hk => ?_
        obtain ⟨t, h0, ht⟩ := bindU hq
        have e0 : cl.argTypes.getD 0 0 = t := by simp [h0]
        rw [e0] at hk
        obtain ⟨k', e', hu', hK⟩ := h.keyK hk
        exact ok_delete hop hc hv h0 hu' hK
      · rename_i e hq
        refine primOk_o fun l hl => ?_
        obtain ⟨t, h0, ht⟩ := bindU hq
        split
        · rename_i hp; exact ok_clear h hop hc hv h0 ht hl hp
        · trivial
      · trivial

end Go.Proofs.YtmgigdklcaepdaaGreatDoor.Ax
end

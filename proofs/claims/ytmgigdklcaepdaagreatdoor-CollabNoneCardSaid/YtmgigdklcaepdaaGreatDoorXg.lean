/-
  Reading of maps, of iterators, of bytes as a text. · Effects: the frame; stores.
-/
import Derived.Test.YtmgigdklcaepdaaGreatDoorXf
import Derived.Laws.BytesString
set_option linter.unusedVariables false
set_option linter.unusedSimpArgs false
section
namespace Go.Proofs.YtmgigdklcaepdaaGreatDoor.Ax
set_option linter.unusedVariables false
set_option linter.unusedSimpArgs false

variable {P : Program}

theorem pKey_one {ts : List Nat} {key : AVal} {k : Nat} (h : pKey ts key k = 1) : k = 1 ∧ ∀ ρ ck, VRel ρ key ck → (ts = [] → True) ∧ (ts ≠ [] → ∃ cs : Array Value, ck = .agg cs ∧ cs.size = ts.length) := by
  cases ts with
  | nil => exact ⟨h, fun ρ ck _ => ⟨fun _ => trivial, fun e => absurd rfl e⟩⟩
  | cons t ts =>
    have h0 : (onAgg key fun cs => ifB (Nat.beq (len' cs) (len' (t :: ts))) k 411) = 1 := h
    obtain ⟨cs, rfl, h1⟩ := onAgg_one h0
    obtain ⟨e, h2⟩ := ifB_true h1 (by decide)
    have e := Nat.eq_of_beq_eq_true e
    rw [len'_eq, len'_eq] at e
    refine ⟨h2, fun ρ ck r => ⟨fun _ => trivial, fun _ => ?_⟩⟩
    obtain ⟨vs, rfl, hl, _⟩ := r.agg_inv
    exact ⟨vs, rfl, by have := hl.1; simp at this e ⊢; omega⟩

/-- A map as the model has it. -/
theorem HR.ents {gl : Fixed} {f : Nat → Option AObj} {ρ : Ren} {w : World} (hr : HR gl f ρ w) {b : Nat} {L : Loc} {es : List MEnt} {c : Nat} (hb : ρ b = some L) (ho : f b = some (.map es c)) :
    ∃ ces : Array MapEntry, w.heap[L.c]? = some (.map ces c) ∧ EntsRel ρ es ces.toList := by
  obtain ⟨ces, hc, hl, he⟩ := hr.obj b L _ hb ho
  exact ⟨ces, hc, by simpa using hl, fun i e c h1 h2 => he i e c h1 (by simpa using h2)⟩
theorem run_getMap {w : World} {r : Nat} {es : Array MapEntry} {clock : Nat} (hb : w.heap[r]? = some (.map es clock)) : (getObj r).run P w = .ok (.map es clock) w := by
  simp [getObj, Sem.run, hb]

/-- What is found. -/
theorem findR_some {ρ : Ren} {kt : TypeId} {ck : Value} {es : List MEnt} {ces : List MapEntry} {i : Nat} {e : MEnt} (he : EntsRel ρ es ces) (hi : es[i]? = some e) : ∃ c, ces[i]? = some c ∧ entRel ρ e c := by
  have hlt : i < es.length := by
    rcases Nat.lt_or_ge i es.length with h_1 | h_1
    · exact h_1
    · rw [List.getElem?_eq_none h_1] at hi; cases hi
  refine ⟨ces[i]'(by rw [← he.1]; exact hlt), List.getElem?_eq_getElem _, he.2 i e _ hi (List.getElem?_eq_getElem _)⟩

theorem lookup_nil {t kt et : TypeId} {i : TypeInfo} {z : Value} {ts : List Nat} (ht : P.underlying t = some (.map kt et)) (hk : KeyT P kt ts) (hi : P.info? et = some i) (hz : i.zero = some z) (w : World) {ck : Value}
    (hs : (ts = [] → True) ∧ (ts ≠ [] → ∃ cs : Array Value, ck = .agg cs ∧ cs.size = ts.length)) (ok : Bool) :
    (Instr.lookup t (.map none) ck ok).run P w = .ok (if ok then .tuple #[z, .bool false] else z) w := by
  have hf : (Instr.findKey kt ck []).run P w = .ok none w := by
    have := run_find hk (ck := ck) w (ces := []) (oi := none) (fun c hc => by cases hc)
    simpa using this
  simp only [Instr.lookup, Sem.run_bind, run_und ht, Result.andThen_ok, Sem.run_pure, run_checkKeyT hk w hs, hf, run_zero hi hz]
theorem lookup_map {t kt et : TypeId} {i : TypeInfo} {z : Value} {ts : List Nat} (ht : P.underlying t = some (.map kt et)) (hk : KeyT P kt ts) (hi : P.info? et = some i) (hz : i.zero = some z) (w : World) {ck : Value}
    (hs : (ts = [] → True) ∧ (ts ≠ [] → ∃ cs : Array Value, ck = .agg cs ∧ cs.size = ts.length)) (ok : Bool) {r : Nat} {ces : Array MapEntry} {c : Nat} (hb : w.heap[r]? = some (.map ces c)) {oi : Option Nat} (hf : FindR P kt ck oi ces.toList) :
    (Instr.lookup t (.map (some r)) ck ok).run P w = .ok (match (oi.bind fun i => (ces[i]?).map fun c => (i, c.val)) with
      | some (_, v) => (if ok then .tuple #[v, .bool true] else v) | none => (if ok then .tuple #[z, .bool false] else z)) w := by
  have hf := run_find hk w hf
  simp only [Array.getElem?_toList] at hf
  simp only [Instr.lookup, Sem.run_bind, run_und ht, Result.andThen_ok, Sem.run_pure, run_getMap hb, run_checkKeyT hk w hs, hf]
  cases (oi.bind fun i => (ces[i]?).map fun c => (i, c.val)) with
  | none => simp [run_zero hi hz]
  | some p => simp

def Reads2 (P : Program) (gl : Fixed) (H : Heap) (s : Value → Value → Sem Value) (x y v : AVal) : Prop :=
  ∀ w ρ cx cy, HR gl H.f ρ w → VRel ρ x cx → VRel ρ y cy → ∃ cv, (s cx cy).run P w = .ok cv w ∧ VRel ρ v cv

theorem pLookup_ok {gl : Fixed} {ts : List Nat} {zero x key : AVal} {H : Heap} {kv : KP} (h : pLookup ts zero x key H kv = 1) {t kt et : TypeId} {i : TypeInfo} {z : Value} (ht : P.underlying t = some (.map kt et)) (hk : KeyT P kt ts)
    (hi : P.info? et = some i) (hz : i.zero = some z) (hzz : ∀ ρ, VRel ρ zero z) : ∃ v, kv v = 1 ∧ Reads2 P gl H (fun x k => Instr.lookup t x k false) x key v := by
  obtain ⟨h_1, hs⟩ := pKey_one h
  rcases onMap_one h_1 with ⟨b, rfl, h_2⟩ | ⟨rfl, h_2⟩
  · obtain ⟨ob, hob, h_3⟩ := Heap.get_one h_2
    obtain ⟨es, c, rfl, h_4⟩ := onMapO_one h_3
    obtain ⟨oi, h_5, hf⟩ := find_one hk h_4
    cases oi with
    | none =>
      refine ⟨_, h_5, fun w ρ cx ck hr rx rk => ?_⟩
      cases rx with
      | map hb =>
        obtain ⟨ces, hc, he⟩ := hr.ents hb hob
        exact ⟨_, lookup_map ht hk hi hz w (hs ρ ck rk) false hc (hf ρ ck _ rk he), hzz ρ⟩
    | some j =>
      obtain ⟨e, hj, h_6⟩ := h_5
      refine ⟨_, h_6, fun w ρ cx ck hr rx rk => ?_⟩
      cases rx with
      | map hb =>
        obtain ⟨ces, hc, he⟩ := hr.ents hb hob
        obtain ⟨ce, hce, re⟩ := findR_some (kt := kt) (ck := ck) he hj
        refine ⟨_, lookup_map ht hk hi hz w (hs ρ ck rk) false hc (hf ρ ck _ rk he), ?_⟩
        have hce : ces[j]? = some ce := by simpa using hce
        simp only [Option.bind_some, hce, Option.map_some]
        exact re.2.1
  · refine ⟨_, h_2, fun w ρ cx ck hr rx rk => ?_⟩
    cases rx
    exact ⟨_, lookup_nil ht hk hi hz w (hs ρ ck rk) false, hzz ρ⟩
theorem pLookupOk_ok {gl : Fixed} {ts : List Nat} {zero x key : AVal} {H : Heap} {kv : KP} (h : pLookupOk ts zero x key H kv = 1) {t kt et : TypeId} {i : TypeInfo} {z : Value} (ht : P.underlying t = some (.map kt et)) (hk : KeyT P kt ts)
    (hi : P.info? et = some i) (hz : i.zero = some z) (hzz : ∀ ρ, VRel ρ zero z) : ∃ v, kv v = 1 ∧ Reads2 P gl H (fun x k => Instr.lookup t x k true) x key v := by
  have two : ∀ {ρ : Ren} {a b : AVal} {ca cb : Value}, VRel ρ a ca → VRel ρ b cb → VRel ρ (.z (.tuple [a, b])) (.tuple #[ca, cb]) := fun ha hb => .tupleL (.cons ha (.cons hb .nil))
  obtain ⟨h_1, hs⟩ := pKey_one h
  rcases onMap_one h_1 with ⟨b, rfl, h_2⟩ | ⟨rfl, h_2⟩
  · obtain ⟨ob, hob, h_3⟩ := Heap.get_one h_2
    obtain ⟨es, c, rfl, h_4⟩ := onMapO_one h_3
    obtain ⟨oi, h_5, hf⟩ := find_one hk h_4
    cases oi with
    | none =>
      refine ⟨_, h_5, fun w ρ cx ck hr rx rk => ?_⟩
      cases rx with
      | map hb =>
        obtain ⟨ces, hc, he⟩ := hr.ents hb hob
        exact ⟨_, lookup_map ht hk hi hz w (hs ρ ck rk) true hc (hf ρ ck _ rk he), two (hzz ρ) .ff⟩
    | some j =>
      obtain ⟨e, hj, h_6⟩ := h_5
      refine ⟨_, h_6, fun w ρ cx ck hr rx rk => ?_⟩
      cases rx with
      | map hb =>
        obtain ⟨ces, hc, he⟩ := hr.ents hb hob
        obtain ⟨ce, hce, re⟩ := findR_some (kt := kt) (ck := ck) he hj
        refine ⟨_, lookup_map ht hk hi hz w (hs ρ ck rk) true hc (hf ρ ck _ rk he), ?_⟩
        have hce : ces[j]? = some ce := by simpa using hce
        simp only [Option.bind_some, hce, Option.map_some]
        exact two re.2.1 .tt
  · refine ⟨_, h_2, fun w ρ cx ck hr rx rk => ?_⟩
    cases rx
    exact ⟨_, lookup_nil ht hk hi hz w (hs ρ ck rk) true, two (hzz ρ) .ff⟩

/-! bytes as a text -/
theorem foldl_push : ∀ (l : List Int) (s : ByteArray), (l.foldl (fun (r : ByteArray) n => r.push (UInt8.ofNat n.toNat)) s).data.toList = s.data.toList ++ l.map fun n => UInt8.ofNat n.toNat := by
  intro l
  induction l with
  | nil => intro s; simp
  | cons n l ih => intro s; simp only [List.foldl_cons]; rw [ih]; simp [ByteArray.push]
theorem cellsStr_one {cs : List AVal} : ∀ {k : Nat → Nat → Nat}, cellsStr cs k = 1 → ∃ n code, k n code = 1 ∧ n = cs.length ∧ code < 256 ^ n ∧
    ∀ ρ ccs, LRel ρ cs ccs → ccs = (bytesOf n code).map fun b => Value.int .u8 (.ofNat b.toNat) := by
  induction cs with
  | nil => intro k h; exact ⟨0, 0, h, rfl, by decide, fun ρ ccs hl => by rw [hl.nil_inv]; rfl⟩
  | cons c cs ih =>
    intro k h
    have h0 : onInt c (fun j n => natI n fun n => ifB (andB (eqK j .u8) (Nat.ble n 255)) (cellsStr cs fun l code => force (Nat.succ l) fun l => force (Nat.add n (Nat.mul 256 code)) fun c => k l c) 338) = 1 := h
    obtain ⟨j, n, hc, h1⟩ := onInt_one h0
    obtain ⟨m, rfl, h2⟩ := natI_one h1
    obtain ⟨e, h3⟩ := ifB_true h2 (by decide)
    obtain ⟨e1, e2⟩ := andB_true e
    have e1 := eqK_true e1
    have e2 : m ≤ 255 := Nat.le_of_ble_eq_true e2
    subst e1
    obtain ⟨l, code, h4, hl, hlt, hr⟩ := ih h3
    rw [force_eq, force_eq] at h4
    refine ⟨_, _, h4, by simp [hl], ?_, fun ρ ccs hcs => ?_⟩
    · have h5 : m + 256 * code < 256 ^ (l + 1) := by rw [Nat.pow_succ]; omega
      exact h5
    · obtain ⟨cv, cvs, rfl, rv, rs⟩ := hcs.uncons
      rw [int_inv rv hc, hr ρ cvs rs]
      have e3 : (m + 256 * code) % 256 = m := by omega
      have e4 : (m + 256 * code) / 256 = code := by omega
      have e5 : bytesOf (l + 1) (m + 256 * code) = UInt8.ofNat m :: bytesOf l code := by simp only [bytesOf, e3, e4]
      show _ = List.map _ (bytesOf (l + 1) (m + 256 * code))
      rw [e5, List.map_cons, u8_nat (by omega)]
theorem run_bytesTxt {w : World} {a : Addr} {n cc : Nat} {l : List UInt8} (h : (loadCells a n).run P w = .ok (l.map fun b => Value.int .u8 (.ofNat b.toNat)).toArray w) :
    (Conv.bytesToString (.slice (some a) n cc)).run P w = .ok (.string ⟨l.toArray⟩) w := by
  have := run_bytesToString (P := P) w a n cc (l.map fun b => (Int.ofNat b.toNat)) (by rw [List.map_map]; exact h)
  rw [this]
  congr 2
  apply ByteArray.ext
  apply Array.ext'
  rw [foldl_push]
  simp
  exact (List.map_congr_left (fun b _ => by simp)).trans (List.map_id l)
theorem run_loadBytes {w : World} {c p n : Nat} {arr : Array Value} {fz : Nat → Bool} (h : rowAt w c arr fz) {l : List UInt8} (hl : l.length = n) (hb : ∀ i b, l[i]? = some b → arr[p + i]? = some (.int .u8 (.ofNat b.toNat))) :
    (loadCells ⟨c, p, none⟩ n).run P w = .ok (l.map fun b => Value.int .u8 (.ofNat b.toNat)).toArray w := by
  have := run_loadCells_list (P := P) w ⟨c, p, none⟩ (l.map fun b => Value.int .u8 (.ofNat b.toNat)) (fun j v hv => by
    rw [addr_add', cell_row h]
    rw [List.getElem?_map] at hv
    cases hlj : l[j]? with
    | none => rw [hlj] at hv; cases hv
    | some b => rw [hlj] at hv; simp at hv; rw [hb j b hlj, ← hv]; rfl)
  rw [List.length_map, hl] at this
  exact this
theorem bytes_cut {n code o m : Nat} (h : o + m ≤ n) (i : Nat) (b : UInt8) (hb : (bytesOf m (cutN code o m))[i]? = some b) : (bytesOf n code)[o + i]? = some b := by
  rw [← bytesOf_cut n code o m h, List.getElem?_take] at hb
  split at hb
  · rw [List.getElem?_drop] at hb; exact hb
  · cases hb

theorem pConvBS_ok {gl : Fixed} {x : AVal} {H : Heap} {kv : KP} (h : pConvBS x H kv = 1) : ∃ v, kv v = 1 ∧ Reads P gl H Conv.bytesToString x v := by
  rcases onSl_one h with ⟨b, o, n, es, c, rfl, h_1⟩ | ⟨rfl, h_1⟩
  · rcases ifB_one h_1 with ⟨h0, h_2⟩ | ⟨h0, h_2⟩
    · have h0 := Nat.eq_of_beq_eq_true h0
      subst h0
      refine ⟨_, h_2, fun w ρ cx hr rx => ?_⟩
      have : ∃ a cc, cx = .slice (some a) 0 cc := by cases rx <;> exact ⟨_, _, rfl⟩
      obtain ⟨a, cc, rfl⟩ := this
      refine ⟨.string (txt 0 0), ?_, .str (by decide)⟩
      exact run_bytesTxt (l := []) (by simp [loadCells, loadCellsFrom])
    · have hpos : 0 < n := by
        rcases Nat.eq_zero_or_pos n with e | e
        · subst e; cases h0
        · exact e
      obtain ⟨ob, hob, h_3⟩ := Heap.get_one h_2
      rcases onCells_one h_3 with ⟨e, m, wr, tr, rfl, h_4⟩ | ⟨m, cd, wr, rfl, h_4⟩
      · obtain ⟨cs, h_5, hcs⟩ := readCells_one h_4
        obtain ⟨l, code, h_6, hl, hlt, hbs⟩ := cellsStr_one h_5
        refine ⟨_, h_6, fun w ρ cx hr rx => ?_⟩
        cases rx with
        | slE _ _ _ => omega
        | sl hb hc hle hp ht =>
          obtain ⟨arr, fz, hrow, hs, hn, he, _⟩ := (hr.obj b _ _ hb hob).elems
          obtain ⟨hln, hca⟩ := hcs ρ arr _ he
          obtain ⟨r1, r2, r3⟩ := hca.list
          refine ⟨.string (txt l code), ?_, .str hlt⟩
          have hl2 : l = n := by omega
          subst hl2
          rw [hln] at r1 r3
          refine run_bytesTxt ?_
          rw [run_loadRow hrow _ (by omega), ← hbs ρ _ r1]
      · obtain ⟨h1, h_7⟩ := ifB_true h_4 (by decide)
        have h1 : o + n ≤ m := Nat.le_of_ble_eq_true h1
        rw [force_eq] at h_7
        refine ⟨_, h_7, fun w ρ cx hr rx => ?_⟩
        cases rx with
        | slE _ _ _ => omega
        | sl hb hc hle hp ht =>
          obtain ⟨arr, fz, hrow, hs, hn, hlt, hbs, _⟩ := hr.obj b _ _ hb hob
          refine ⟨.string (txt n (cutN cd o n)), run_bytesTxt (run_loadBytes hrow (bytesOf_length _ _) fun i b' hb' => ?_), .str (cutN_lt _ _ _)⟩
          rw [Nat.add_assoc]
          exact hbs _ _ (bytes_cut h1 i b' hb')
  · refine ⟨_, h_1, fun w ρ cx hr rx => ?_⟩
    cases rx
    refine ⟨.string (txt 0 0), ?_, .str (by decide)⟩
    simp [Conv.bytesToString]
    rfl

end Go.Proofs.YtmgigdklcaepdaaGreatDoor.Ax
end
section
namespace Go.Proofs.YtmgigdklcaepdaaGreatDoor.Ax
set_option linter.unusedVariables false
set_option linter.unusedSimpArgs false

variable {P : Program}

theorem Heap.put_one {H : Heap} {b : Nat} {o : AObj} {k : Heap → Nat} (h : H.put b o k = 1) : ∃ H' : Heap, k H' = 1 ∧ H'.next = H.next ∧ ∀ m, H'.f m = if m = b then some o else H.f m := by
  obtain ⟨t, n⟩ := H
  obtain ⟨t', h1, h2⟩ := Trie.ins_one t h
  exact ⟨⟨t', n⟩, h1, rfl, h2⟩
theorem Heap.new_one {H : Heap} {o : AObj} {k : Nat → Heap → Nat} (h : H.new o k = 1) : ∃ H' : Heap, k H.next H' = 1 ∧ H'.next = H.next + 1 ∧ ∀ m, H'.f m = if m = H.next then some o else H.f m := by
  obtain ⟨t, n⟩ := H
  have h0 : force n (fun b => t.ins b o fun t => k b ⟨t, Nat.succ b⟩) = 1 := h
  rw [force_eq] at h0
  obtain ⟨t', h1, h2⟩ := Trie.ins_one t h0
  exact ⟨⟨t', n + 1⟩, h1, rfl, h2⟩

/-- Worlds that differ at one block at most. -/
structure Only (c : Nat) (w w' : World) : Prop where
  other : ∀ c', c' ≠ c → w'.heap[c']? = w.heap[c']?
  size : w'.heap.size = w.heap.size
  tape : w'.tape = w.tape
  os : w'.os = w.os
  out : w'.output = w.output
theorem Only.refl (c : Nat) (w : World) : Only c w w := ⟨fun _ _ => rfl, rfl, rfl, rfl, rfl⟩
theorem Only.trans {c : Nat} {w w1 w2 : World} (h : Only c w w1) (k : Only c w1 w2) : Only c w w2 :=
  ⟨fun c' hc => (k.other c' hc).trans (h.other c' hc), k.size.trans h.size, k.tape.trans h.tape, k.os.trans h.os, k.out.trans h.out⟩

theorem HR.put {gl : Fixed} {f f' : Nat → Option AObj} {ρ : Ren} {w w' : World} {b : Nat} {L : Loc} {o o' : AObj} (hr : HR gl f ρ w) (hb : ρ b = some L) (ho : f b = some o) (hd : o ≠ .dead) (hw : Only L.c w w')
    (hf : ∀ m, f' m = if m = b then some o' else f m) (hO : ObjRel ρ w' L o') : HR gl f' ρ w' ∧ ∀ n, Grow f ρ w n f' ρ w' n := by
  have lv : live f b := ⟨o, ho, hd⟩
  have back : ∀ b' , live f' b' → live f b' := by
    intro b' ⟨x, hx, hxd⟩
    rw [hf] at hx
    split at hx
    · rename_i e; exact e ▸ lv
    · exact ⟨x, hx, hxd⟩
  refine ⟨⟨fun b' L' x hb' hx => ?_, fun b1 b2 L1 L2 hne h1 h2 l1 l2 => hr.sep b1 b2 L1 L2 hne h1 h2 (back b1 l1) (back b2 l2), fun b' L' hb' => by rw [hw.size]; exact hr.inn b' L' hb',
    fun g x hg => ⟨by rw [hw.other g (Ne.symm ((hr.fixd g x hg).2 b L hb lv))]; exact (hr.fixd g x hg).1, fun b' L' hb' l => (hr.fixd g x hg).2 b' L' hb' (back b' l)⟩⟩, fun n => ?_⟩
  · rw [hf] at hx
    split at hx
    · rename_i e
      subst e
      rw [hb] at hb'
      injection hb' with e1; injection hx with e2
      subst e1 e2
      exact hO
    · rename_i hne
      by_cases hxd : x = .dead
      · subst hxd; exact True.intro
      · have : L'.c ≠ L.c := hr.sep b' b L' L hne hb' hb ⟨x, hx, hxd⟩ lv
        exact (hr.obj b' L' x hb' hx).stay ρ.le_refl (hw.other _ this)
  · refine ⟨ρ.le_refl, Nat.le_refl _, (fun b' L' h h' => by rw [h'] at h; cases h), fun b' L' _ l => back b' l, fun c hc hn => hw.other c (fun e => hn b L hb lv e.symm), by rw [hw.size]; exact Nat.le_refl _, hw.tape, hw.os, hw.out⟩

def Ren.set (ρ : Ren) (b : Nat) (L : Loc) : Ren := fun m => if m = b then some L else ρ m
theorem Ren.set_at (ρ : Ren) (b : Nat) (L : Loc) : ρ.set b L b = some L := by simp [Ren.set]
theorem Ren.le_set {ρ : Ren} {b : Nat} (L : Loc) (h : ρ b = none) : ρ.le (ρ.set b L) := by
  intro m M hm
  unfold Ren.set
  split
  · rename_i e; subst e; rw [h] at hm; cases hm
  · exact hm

/-- Worlds of which one has one more block. -/
structure Push (ob : Obj) (w w' : World) : Prop where
  heap : w'.heap = w.heap.push ob
  tape : w'.tape = w.tape
  os : w'.os = w.os
  out : w'.output = w.output

theorem HR.new {gl : Fixed} {f f' : Nat → Option AObj} {ρ : Ren} {w w' : World} {b tot : Nat} {ob : Obj} {o : AObj} (hr : HR gl f ρ w) (hb : ρ b = none) (hw : Push ob w w')
    (hf : ∀ m, f' m = if m = b then some o else f m) (hO : ObjRel (ρ.set b ⟨w.heap.size, 0, tot⟩) w' ⟨w.heap.size, 0, tot⟩ o) :
    HR gl f' (ρ.set b ⟨w.heap.size, 0, tot⟩) w' ∧ Grow f ρ w b f' (ρ.set b ⟨w.heap.size, 0, tot⟩) w' (b + 1) := by
  have hle := Ren.le_set ⟨w.heap.size, 0, tot⟩ hb
  have old : ∀ c, c < w.heap.size → w'.heap[c]? = w.heap[c]? := by
    intro c hc
    rw [hw.heap, Array.getElem?_push, if_neg (by omega)]
  have ren : ∀ b' L', (ρ.set b ⟨w.heap.size, 0, tot⟩) b' = some L' → (b' = b ∧ L' = ⟨w.heap.size, 0, tot⟩) ∨ (b' ≠ b ∧ ρ b' = some L') := by
    intro b' L' h
    unfold Ren.set at h
    split at h
    · rename_i e; injection h with h; exact .inl ⟨e, h.symm⟩
    · rename_i e; exact .inr ⟨e, h⟩
  have back : ∀ b', b' ≠ b → live f' b' → live f b' := by
    intro b' hne ⟨x, hx, hxd⟩
    rw [hf, if_neg hne] at hx
    exact ⟨x, hx, hxd⟩
  refine ⟨⟨fun b' L' x hb' hx => ?_, fun b1 b2 L1 L2 hne h1 h2 l1 l2 => ?_, fun b' L' hb' => ?_, fun g x hg => ⟨?_, fun b' L' hb' l => ?_⟩⟩,
    ⟨hle, Nat.le_succ _, fun b' L' h h' => ?_, fun b' L' hb' l => ?_, fun c hc _ => old c hc, by rw [hw.heap]; simp, hw.tape, hw.os, hw.out⟩⟩
  · rcases ren b' L' hb' with ⟨rfl, rfl⟩ | ⟨hne, h0⟩
    · rw [hf, if_pos rfl] at hx
      injection hx with e; subst e
      exact hO
    · rw [hf, if_neg hne] at hx
      exact (hr.obj b' L' x h0 hx).stay hle (old _ (hr.inn b' L' h0))
  · rcases ren b1 L1 h1 with ⟨rfl, rfl⟩ | ⟨n1, h1'⟩ <;> rcases ren b2 L2 h2 with ⟨rfl, rfl⟩ | ⟨n2, h2'⟩
    · exact absurd rfl hne
    · have := hr.inn b2 L2 h2'; show w.heap.size ≠ L2.c; omega
    · have := hr.inn b1 L1 h1'; show L1.c ≠ w.heap.size; omega
    · exact hr.sep b1 b2 L1 L2 hne h1' h2' (back b1 n1 l1) (back b2 n2 l2)
  · rw [hw.heap, Array.size_push]
    rcases ren b' L' hb' with ⟨rfl, rfl⟩ | ⟨hne, h0⟩
    · exact Nat.lt_succ_self _
    · exact Nat.lt_succ_of_lt (hr.inn b' L' h0)
  · have h0 := (hr.fixd g x hg).1
    rw [old g (by have := (Array.getElem?_eq_some_iff.mp h0).1; exact this)]
    exact h0
  · rcases ren b' L' hb' with ⟨rfl, rfl⟩ | ⟨hne, h0⟩
    · have h0 := (hr.fixd g x hg).1
      have := (Array.getElem?_eq_some_iff.mp h0).1
      show w.heap.size ≠ g
      omega
    · exact (hr.fixd g x hg).2 b' L' h0 (back b' hne l)
  · rcases ren b' L' h with ⟨rfl, rfl⟩ | ⟨hne, h0⟩
    · exact ⟨Nat.le_refl _, Nat.lt_succ_self _, .inl (Nat.le_refl _)⟩
    · rw [h'] at h0; cases h0
  · have hne : b' ≠ b := by intro e; subst e; rw [hb] at hb'; cases hb'
    exact back b' hne l

/-- What an operation does, in every world that the heap stands for. -/
def Acts (P : Program) (gl : Fixed) (H : Heap) (xs : List AVal) (s : List Value → Sem Value) (v : AVal) (H' : Heap) : Prop :=
  ∀ w ρ cxs, HR gl H.f ρ w → Fresh ρ H.next H'.next → LRel ρ xs cxs → ∃ cv ρ' w', (s cxs).run P w = .ok cv w' ∧ Grow H.f ρ w H.next H'.f ρ' w' H'.next ∧ HR gl H'.f ρ' w' ∧ VRel ρ' v cv

/-! writing to a row -/
theorem run_storeRow : ∀ (vs : List Value) (c p i : Nat) (w : World) (arr : Array Value) (fz : Nat → Bool), rowAt w c arr fz → p + i + vs.length ≤ arr.size → (∀ j, p + i ≤ j → j < p + i + vs.length → fz j = false) → One vs →
    ∃ w' arr', (storeCells ⟨c, p, none⟩ vs i).run P w = .ok () w' ∧ rowAt w' c arr' fz ∧ arr'.toList = over arr.toList vs (p + i) ∧ Only c w w' := by
  intro vs
  induction vs with
  | nil =>
    intro c p i w arr fz hr _ _ _
    exact ⟨w, arr, by simp [storeCells], hr, by simp [over], Only.refl c w⟩
  | cons v vs ih =>
    intro c p i w arr fz hr hsz hfz h1
    have hsz : p + i + (vs.length + 1) ≤ arr.size := by simpa using hsz
    have hc : w.cell? ⟨c, p + i, none⟩ = some arr[p + i] := by rw [cell_row hr]; exact Array.getElem?_eq_getElem (by omega)
    have hz : w.frozen? ⟨c, p + i, none⟩ = false := by rw [frozen_row hr]; exact hfz _ (Nat.le_refl _) (by simp)
    have hst : (store ((⟨c, p, none⟩ : Addr).add i) v).run P w = .ok () (w.setCell ⟨c, p + i, none⟩ v) := by
      rw [addr_add', run_store P w _ v _ (h1 v List.mem_cons_self)]
      simp [hc, hz]
    obtain ⟨ty, lo, hi, hb, hf⟩ := hr
    have hlt : c < w.heap.size := (Array.getElem?_eq_some_iff.mp hb).1
    have hr1 : rowAt (w.setCell ⟨c, p + i, none⟩ v) c (arr.setIfInBounds (p + i) v) fz := by
      refine ⟨ty, lo, hi, ?_, hf⟩
      simp [World.setCell, hb, Array.getElem?_modify]
    have ho1 : Only c w (w.setCell ⟨c, p + i, none⟩ v) := by
      refine ⟨fun c' hc' => ?_, by simp [World.setCell], rfl, rfl, rfl⟩
      simp [World.setCell, Array.getElem?_modify, Ne.symm hc']
    obtain ⟨w', arr', e1, e2, e3, e4⟩ := ih c p (i + 1) _ _ fz hr1 (by simp; omega) (fun j h2 h3 => hfz j (by omega) (by simp; omega)) (fun y hy => h1 y (List.mem_cons_of_mem _ hy))
    refine ⟨w', arr', by simp only [storeCells, Sem.run_bind, hst, Result.andThen_ok, e1], e2, ?_, ho1.trans e4⟩
    rw [e3]
    apply List.ext_getElem?
    intro j
    rw [over_get _ _ _ _ (by simp; omega), over_get _ _ _ _ (by simp; omega)]
    simp only [List.length_cons, Array.toList_setIfInBounds, List.getElem?_set]
    by_cases h1 : j = p + i
    · subst h1
      rw [if_neg (by omega), if_pos rfl, if_pos (by simp; omega), if_pos (by omega)]
      simp
    · by_cases h2 : p + (i + 1) ≤ j ∧ j < p + (i + 1) + vs.length
      · rw [if_pos h2, if_pos (by omega)]
        rw [show j - (p + i) = (j - (p + (i + 1))) + 1 by omega]
        simp
      · rw [if_neg h2, if_neg (by omega), if_neg (by omega)]

theorem overL_one' {α : Type} {l : List α} : ∀ {new : List α} {n : Nat} {k : List α → Nat}, overL l new n k = 1 → ∃ r, k r = 1 ∧ (n ≤ l.length → n + new.length ≤ l.length ∧ r = over l new n) := by
  intro new n k h
  by_cases hn : n ≤ l.length
  · obtain ⟨a, b⟩ := overL_one hn h
    exact ⟨_, b, fun _ => ⟨a, rfl⟩⟩
  · have : ∃ r, k r = 1 := by
      clear hn
      induction l generalizing new n k with
      | nil => cases new with
        | nil => exact ⟨[], h⟩
        | cons y ys => cases h
      | cons x l ih =>
        cases n with
        | zero => cases new with
          | nil => exact ⟨_, h⟩
          | cons y ys => obtain ⟨r, hr⟩ := ih (new := ys) (n := 0) h; exact ⟨_, hr⟩
        | succ n => obtain ⟨r, hr⟩ := ih (new := new) (n := n) h; exact ⟨_, hr⟩
    obtain ⟨r, hr⟩ := this
    exact ⟨r, hr, fun h => absurd h hn⟩

theorem putElems_one {esz : Nat} (fuel : Nat) : ∀ {cs : List AVal} {i : Nat} {t : Trie (List AVal)} {k : Trie (List AVal) → Nat}, putElems fuel esz cs i t k = 1 →
    ∃ t' m, k t' = 1 ∧ cs.length = m * esz ∧ (m = 0 ∨ 0 < esz) ∧ ∀ j, t'.look j = if i ≤ j ∧ j < i + m then some ((cs.drop ((j - i) * esz)).take esz) else t.look j := by
  induction fuel with
  | zero =>
    intro cs i t k h
    cases cs with
    | nil => exact ⟨t, 0, h, by simp, .inl rfl, fun j => by rw [if_neg (by omega)]⟩
    | cons c cs => cases h
  | succ fuel ih =>
    intro cs i t k h
    cases cs with
    | nil => exact ⟨t, 0, h, by simp, .inl rfl, fun j => by rw [if_neg (by omega)]⟩
    | cons c cs =>
      have h0 : takeL (c :: cs) esz (fun e => dropL (c :: cs) esz fun r => t.ins i e fun t => putElems fuel esz r (Nat.succ i) t k) = 1 := h
      obtain ⟨h1, h2⟩ := takeL_one h0
      rw [dropL_eq] at h2
      obtain ⟨t1, h3, h4⟩ := Trie.ins_one t h2
      obtain ⟨t', m, h5, h6, h7, h8⟩ := ih h3
      have hlen : (c :: cs).length = (m + 1) * esz := by
        have : ((c :: cs).drop esz).length = (c :: cs).length - esz := List.length_drop
        rw [this] at h6
        rw [Nat.add_mul, Nat.one_mul]; omega
      refine ⟨t', m + 1, h5, hlen, ?_, fun j => ?_⟩
      · rcases Nat.eq_zero_or_pos esz with e | e
        · subst e; simp at hlen
        · exact .inr e
      · rw [h8, h4]
        by_cases hj : j = i
        · subst hj
          rw [if_neg (by omega), if_pos rfl, if_pos (by omega)]
          simp
        · by_cases hj2 : i + 1 ≤ j ∧ j < i + 1 + m
          · rw [if_pos (by exact hj2), if_pos (by omega), List.drop_drop]
            congr 3
            have : j - i = (j - (i + 1)) + 1 := by omega
            rw [this, Nat.add_mul, Nat.one_mul, Nat.add_comm]
          · rw [if_neg (by exact hj2), if_neg hj, if_neg (by omega)]

/-- What lies where. -/
theorem CellsAt.over_out {ρ : Ren} {arr arr' : Array Value} {ccs : List Value} {p q : Nat} {cs : List AVal} (h : CellsAt ρ arr q cs) (he : arr'.toList = over arr.toList ccs p) (hp : p + ccs.length ≤ arr.size)
    (ho : q + cs.length ≤ p ∨ p + ccs.length ≤ q) : CellsAt ρ arr' q cs := by
  intro j v hv
  obtain ⟨cv, hc, r⟩ := h j v hv
  have hj : j < cs.length := by
    rcases Nat.lt_or_ge j cs.length with g | g
    · exact g
    · rw [List.getElem?_eq_none g] at hv; cases hv
  refine ⟨cv, ?_, r⟩
  have : arr'.toList[q + j]? = some cv := by
    rw [he, over_get _ _ _ _ (by simpa using hp), if_neg (by omega)]
    simpa using hc
  simpa using this
theorem CellsAt.over_in {ρ : Ren} {arr arr' : Array Value} {ccs : List Value} {p : Nat} {cs : List AVal} (h : LRel ρ cs ccs) (h1 : One ccs) (he : arr'.toList = over arr.toList ccs p) (hp : p + ccs.length ≤ arr.size) : CellsAt ρ arr' p cs := by
  intro j v hv
  obtain ⟨cv, hc, r⟩ := h.get hv
  have hj : j < ccs.length := by
    rcases Nat.lt_or_ge j ccs.length with g | g
    · exact g
    · rw [List.getElem?_eq_none g] at hc; cases hc
  refine ⟨cv, ?_, r, h1 cv (List.mem_of_getElem? hc)⟩
  have : arr'.toList[p + j]? = some cv := by
    rw [he, over_get _ _ _ _ (by simpa using hp), if_pos (by omega)]
    rw [show p + j - p = j by omega]; exact hc
  simpa using this

theorem mul_le_of_lt {i n e : Nat} (h : i < n) : i * e + e ≤ n * e := by
  have := Nat.mul_le_mul_right e h
  rw [Nat.succ_mul] at this
  exact this
theorem writeCells_one {esz cnt : Nat} {t : Trie (List AVal)} {o : Nat} {cs : List AVal} {k : Trie (List AVal) → Nat} (h : writeCells esz cnt t o cs k = 1) :
    o + cs.length ≤ cnt * esz ∧ ∃ t', k t' = 1 ∧ ∀ ρ arr arr' d ccs, ElemsAt ρ arr d esz cnt t → LRel ρ cs ccs → One ccs → d + cnt * esz ≤ arr.size → arr'.toList = over arr.toList ccs (d + o) → ElemsAt ρ arr' d esz cnt t' := by
  have h0 : force (len' cs) (fun n => ifB (Nat.ble (Nat.add o n) (Nat.mul cnt esz))
    (force (Nat.div o esz) fun i => force (Nat.mod o esz) fun f =>
      ifB (Nat.ble (Nat.add f n) esz)
        (t.get i (fun c => overL c cs f fun c => t.ins i c k) 340)
        (ifB (Nat.beq f 0) (putElems n esz cs i t k) 341)) 342) = 1 := h
  rw [force_eq, len'_eq] at h0
  obtain ⟨h1, h2⟩ := ifB_true h0 (by decide)
  have h1 : o + cs.length ≤ cnt * esz := Nat.le_of_ble_eq_true h1
  refine ⟨h1, ?_⟩
  rw [force_eq, force_eq] at h2
  have hdm : o / esz * esz + o % esz = o := by have := Nat.div_add_mod o esz; rw [Nat.mul_comm] at this; exact this
  rcases ifB_one h2 with ⟨h3, h4⟩ | ⟨_, h4⟩
  · have h3 : o % esz + cs.length ≤ esz := Nat.le_of_ble_eq_true h3
    obtain ⟨c, h5, h6⟩ := Trie.get_one h4 (by decide)
    have h5 : t.look (o / esz) = some c := h5
    obtain ⟨r, h7, h8⟩ := overL_one' h6
    obtain ⟨t', h9, h10⟩ := Trie.ins_one t h7
    refine ⟨t', h9, fun ρ arr arr' d ccs he hl ho hsz heq => ?_⟩
    have hl1 := hl.1
    intro j hj
    have hlook : t'.look j = if j = o / esz then some r else t.look j := h10 j
    have hmul := mul_le_of_lt (e := esz) hj
    by_cases hji : j = o / esz
    · subst hji
      obtain ⟨c', g1, g2, g3⟩ := he _ hj
      rw [h5] at g1; injection g1 with g1; subst g1
      obtain ⟨g4, g5⟩ := h8 (by show o % esz ≤ c.length; omega)
      refine ⟨r, by rw [hlook, if_pos rfl], by rw [g5, over_length _ _ _ g4]; exact g2, ?_⟩
      rw [g5]
      unfold over
      have a1 : CellsAt ρ arr' (d + o / esz * esz) (c.take (o % esz)) := (g3.take (o % esz)).over_out heq (by omega) (.inl (by rw [List.length_take]; omega))
      have a2 : CellsAt ρ arr' (d + o / esz * esz + (c.take (o % esz)).length) cs := by
        have e : d + o / esz * esz + (c.take (o % esz)).length = d + o := by
          have g4 : o % esz + cs.length ≤ c.length := g4
          rw [List.length_take]; omega
        rw [e]; exact CellsAt.over_in hl ho heq (by omega)
      have a3 : CellsAt ρ arr' (d + o / esz * esz + (c.take (o % esz) ++ cs).length) (c.drop (o % esz + cs.length)) := by
        have e : d + o / esz * esz + (c.take (o % esz) ++ cs).length = d + o / esz * esz + (o % esz + cs.length) := by
          have g4 : o % esz + cs.length ≤ c.length := g4
          rw [List.length_append, List.length_take]; omega
        rw [e]
        exact (g3.drop (o % esz + cs.length)).over_out heq (by omega) (.inr (by omega))
      exact (a1.app a2).app a3
    · obtain ⟨c', g1, g2, g3⟩ := he _ hj
      refine ⟨c', by rw [hlook, if_neg (by exact hji)]; exact g1, g2, g3.over_out heq (by omega) ?_⟩
      rcases Nat.lt_or_ge j (o / esz) with g | g
      · left
        have := mul_le_of_lt (e := esz) g
        omega
      · right
        have := mul_le_of_lt (e := esz) (show o / esz < j by omega)
        omega
  · obtain ⟨h3, h5⟩ := ifB_true h4 (by decide)
    have h3 : o % esz = 0 := Nat.eq_of_beq_eq_true h3
    obtain ⟨t', m, h6, h7, h8, h9⟩ := putElems_one _ h5
    refine ⟨t', h6, fun ρ arr arr' d ccs he hl ho hsz heq => ?_⟩
    have hl1 := hl.1
    intro j hj
    have hlook : t'.look j = if o / esz ≤ j ∧ j < o / esz + m then some ((cs.drop ((j - o / esz) * esz)).take esz) else t.look j := h9 j
    have hmul := mul_le_of_lt (e := esz) hj
    by_cases hji : o / esz ≤ j ∧ j < o / esz + m
    · rw [if_pos (by exact hji)] at hlook
      have e3 : (j - o / esz) * esz + esz ≤ cs.length := by rw [h7]; exact mul_le_of_lt (by omega)
      refine ⟨_, hlook, by show ((cs.drop ((j - o / esz) * esz)).take esz).length = esz; rw [List.length_take, List.length_drop]; omega, ?_⟩
      have a := ((CellsAt.over_in hl ho heq (by omega)).drop ((j - o / esz) * esz)).take esz
      have e : d + o + (j - o / esz) * esz = d + j * esz := by
        have e1 : j = o / esz + (j - o / esz) := by omega
        have e2 : j * esz = o / esz * esz + (j - o / esz) * esz := by rw [← Nat.add_mul, ← e1]
        omega
      rw [e] at a
      exact a
    · rw [if_neg (by exact hji)] at hlook
      obtain ⟨c', g1, g2, g3⟩ := he _ hj
      refine ⟨c', by rw [hlook]; exact g1, g2, g3.over_out heq (by omega) ?_⟩
      rcases Nat.lt_or_ge j (o / esz) with g | g
      · left
        have := mul_le_of_lt (e := esz) g
        omega
      · right
        have h10 : o / esz + m ≤ j := by omega
        have := Nat.mul_le_mul_right esz h10
        rw [Nat.add_mul] at this
        omega

end Go.Proofs.YtmgigdklcaepdaaGreatDoor.Ax
end

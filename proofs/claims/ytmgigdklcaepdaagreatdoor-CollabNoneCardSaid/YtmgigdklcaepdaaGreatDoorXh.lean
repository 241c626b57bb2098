/-
  Stores; new blocks. · Composite literals; texts to bytes; made slices.
-/
import Derived.Test.YtmgigdklcaepdaaGreatDoorXg
import Derived.Laws.Tables
set_option linter.unusedVariables false
set_option linter.unusedSimpArgs false
section
namespace Go.Proofs.YtmgigdklcaepdaaGreatDoor.Ax
set_option linter.unusedVariables false
set_option linter.unusedSimpArgs false

variable {P : Program}

theorem pow_split (n k : Nat) (h : k ≤ n) : (256 : Nat) ^ n = 256 ^ k * 256 ^ (n - k) := by rw [← Nat.pow_add]; congr 1; omega
theorem overN_ok {n code o m new : Nat} (hn : o + m ≤ n) (hnew : new < 256 ^ m) :
    overN n code o m new < 256 ^ n ∧ bytesOf n (overN n code o m new) = over (bytesOf n code) (bytesOf m new) o := by
  have e : overN n code o m new = cutN code 0 o + new * 256 ^ o + cutN code (o + m) (n - (o + m)) * 256 ^ (o + m) := by
    show Nat.add (Nat.add (cutN code 0 o) (Nat.shiftLeft new (Nat.mul 8 o))) (Nat.shiftLeft (cutN code (Nat.add o m) (Nat.sub n (Nat.add o m))) (Nat.mul 8 (Nat.add o m))) = _
    rw [shl8, shl8]
    rfl
  have h1 := cutN_lt code 0 o
  have h2 := append_lt o m _ new h1 hnew
  have h3 := cutN_lt code (o + m) (n - (o + m))
  have h4 := append_lt (o + m) (n - (o + m)) _ _ h2 h3
  have en : o + m + (n - (o + m)) = n := by omega
  rw [en] at h4
  refine ⟨by rw [e]; exact h4, ?_⟩
  have g1 := bytesOf_append o m (cutN code 0 o) new h1
  have g2 := bytesOf_append (o + m) (n - (o + m)) _ (cutN code (o + m) (n - (o + m))) h2
  rw [en] at g2
  rw [e, ← g2, ← g1]
  unfold over
  rw [bytesOf_length]
  have t1 : (bytesOf n code).take o = bytesOf o (cutN code 0 o) := by
    have := bytesOf_cut n code 0 o (by omega)
    simpa using this
  have t2 : (bytesOf n code).drop (o + m) = bytesOf (n - (o + m)) (cutN code (o + m) (n - (o + m))) := by
    have := bytesOf_cut n code (o + m) (n - (o + m)) (by omega)
    rw [← this, List.take_of_length_le]
    rw [List.length_drop, bytesOf_length]
    exact Nat.le_refl _
  rw [t1, t2]

/-- Stores of cells. -/
def Stores (P : Program) (H : Heap) (v : AVal) (cs : List AVal) (H' : Heap) : Prop :=
  H'.next = H.next ∧ ∀ gl w ρ cx ccs, HR gl H.f ρ w → VRel ρ v cx → LRel ρ cs ccs → One ccs →
    ∃ a w', cx = .pointer (some a) ∧ (storeCells a ccs).run P w = .ok () w' ∧ HR gl H'.f ρ w' ∧ Grow H.f ρ w H.next H'.f ρ w' H'.next

theorem stCells_one {cs : List AVal} {v : AVal} {H : Heap} {k : Heap → Nat} (h : stCells cs v H k = 1) : ∃ H', k H' = 1 ∧ Stores P H v cs H' := by
  rcases onPtr_one h with ⟨b, o, rfl, h_1⟩ | ⟨g, o, rfl, h_1⟩
  · obtain ⟨ob, hob, h_2⟩ := Heap.get_one h_1
    rcases onCells_one h_2 with ⟨e, n, wr, tr, rfl, h_3⟩ | ⟨n, c, wr, rfl, h_3⟩
    · obtain ⟨hwr, h_4⟩ := ifB_true h_3 (by decide)
      obtain ⟨hle, t', h_5, hst⟩ := writeCells_one h_4
      obtain ⟨H', h_6, hn, hf⟩ := Heap.put_one h_5
      refine ⟨H', h_6, hn, fun gl w ρ cx ccs hr rx rl r1 => ?_⟩
      cases rx with
      | @p _ _ L hb =>
        obtain ⟨arr, fz, hrow, hs, hnn, he, hz⟩ := (hr.obj b _ _ hb hob).elems
        rw [hwr] at hz
        have hl1 := rl.1
        obtain ⟨w', arr', e1, e2, e3, e4⟩ := run_storeRow (P := P) ccs L.c (L.d + o) 0 w arr fz hrow (by omega) (fun j h1 h2 => hz j (by simp; omega) (by omega)) r1
        have he' := hst ρ arr arr' L.d ccs he rl r1 (by omega) e3
        have hO : ObjRel ρ w' L (.cells e n wr t') := by
          have hsz : arr'.size = arr.size := by
            have := congrArg List.length e3
            rw [over_length _ _ _ (by simp; omega)] at this
            simpa using this
          refine ⟨arr', fz, e2, by omega, hnn, fun i hi => ?_, fun j h1 h2 => hz j ?_ h2⟩
          · obtain ⟨c, g1, g2, g3⟩ := he' i hi
            exact ⟨c, g1, g2, fun f v hv => g3 f v hv⟩
          · rw [hwr] at h1; exact h1
        obtain ⟨q1, q2⟩ := hr.put hb hob (by intro x; cases x) e4 hf hO
        exact ⟨_, w', rfl, e1, q1, by rw [hn]; exact q2 _⟩
    · obtain ⟨hwr, h_7⟩ := ifB_true h_3 (by decide)
      obtain ⟨m, new, h_8, hm, hnew, hbs⟩ := cellsStr_one h_7
      obtain ⟨hle, h_9⟩ := ifB_true h_8 (by decide)
      have hle : o + m ≤ n := Nat.le_of_ble_eq_true hle
      rw [force_eq] at h_9
      obtain ⟨H', h_10, hn, hf⟩ := Heap.put_one h_9
      refine ⟨H', h_10, hn, fun gl w ρ cx ccs hr rx rl r1 => ?_⟩
      cases rx with
      | @p _ _ L hb =>
        obtain ⟨arr, fz, hrow, hs, hnn, hlt, hby, hz⟩ := hr.obj b _ _ hb hob
        rw [hwr] at hz
        have hl1 := rl.1
        have hcc := hbs ρ ccs rl
        obtain ⟨w', arr', e1, e2, e3, e4⟩ := run_storeRow (P := P) ccs L.c (L.d + o) 0 w arr fz hrow (by omega) (fun j h1 h2 => hz j (by simp; omega) (by omega)) r1
        obtain ⟨q3, q4⟩ := overN_ok (code := c) hle hnew
        have hO : ObjRel ρ w' L (.bytes n (overN n c o m new) wr) := by
          have hsz : arr'.size = arr.size := by
            have := congrArg List.length e3
            rw [over_length _ _ _ (by simp; omega)] at this
            simpa using this
          refine ⟨arr', fz, e2, by omega, hnn, q3, fun i b' hb' => ?_, fun j h1 h2 => hz j (by rw [hwr] at h1; exact h1) h2⟩
          have goal : arr'.toList[L.d + i]? = some (.int .u8 (.ofNat b'.toNat)) := by
            rw [e3, over_get _ _ _ _ (by simp; omega)]
            rw [q4, over_get _ _ _ _ (by rw [bytesOf_length, bytesOf_length]; exact hle), bytesOf_length] at hb'
            by_cases hi : o ≤ i ∧ i < o + m
            · rw [if_pos hi] at hb'
              rw [if_pos (by omega), hcc, List.getElem?_map]
              rw [show L.d + i - (L.d + o + 0) = i - o by omega, hb']
              rfl
            · rw [if_neg hi] at hb'
              rw [if_neg (by omega)]
              simpa using hby i b' hb'
          simpa using goal
        obtain ⟨q1, q2⟩ := hr.put hb hob (by intro x; cases x) e4 hf hO
        exact ⟨_, w', rfl, e1, q1, by rw [hn]; exact q2 _⟩
  · cases h_1

def Acts2 (P : Program) (gl : Fixed) (H : Heap) (s : Value → Value → Sem Value) (x y v : AVal) (H' : Heap) : Prop :=
  ∀ w ρ cx cy, HR gl H.f ρ w → Fresh ρ H.next H'.next → VRel ρ x cx → VRel ρ y cy → ∃ cv ρ' w', (s cx cy).run P w = .ok cv w' ∧ Grow H.f ρ w H.next H'.f ρ' w' H'.next ∧ HR gl H'.f ρ' w' ∧ VRel ρ' v cv
def Acts1 (P : Program) (gl : Fixed) (H : Heap) (s : Value → Sem Value) (x v : AVal) (H' : Heap) : Prop :=
  ∀ w ρ cx, HR gl H.f ρ w → Fresh ρ H.next H'.next → VRel ρ x cx → ∃ cv ρ' w', (s cx).run P w = .ok cv w' ∧ Grow H.f ρ w H.next H'.f ρ' w' H'.next ∧ HR gl H'.f ρ' w' ∧ VRel ρ' v cv
def Acts3 (P : Program) (gl : Fixed) (H : Heap) (s : Value → Value → Value → Sem Value) (x y z v : AVal) (H' : Heap) : Prop :=
  ∀ w ρ cx cy cz, HR gl H.f ρ w → Fresh ρ H.next H'.next → VRel ρ x cx → VRel ρ y cy → VRel ρ z cz →
    ∃ cv ρ' w', (s cx cy cz).run P w = .ok cv w' ∧ Grow H.f ρ w H.next H'.f ρ' w' H'.next ∧ HR gl H'.f ρ' w' ∧ VRel ρ' v cv

theorem pStore_ok {gl : Fixed} {n : Nat} {a x : AVal} {H : Heap} {kv : K} (h : pStore n a x H kv = 1) {t : TypeId} {i : TypeInfo} (hi : P.info? t = some i) (hz : i.size = n) :
    ∃ v H', kv v H' = 1 ∧ Acts2 P gl H (fun a x => do Instr.storeAt t a x; pure undef) a x v H' := by
  obtain ⟨h_1, hnt⟩ := cellsOf_one h
  obtain ⟨hl, h_2⟩ := ifB_true h_1 (by decide)
  have hl := Nat.eq_of_beq_eq_true hl
  rw [len'_eq] at hl
  obtain ⟨H', h_3, hn, hst⟩ := stCells_one (P := P) h_2
  refine ⟨_, H', h_3, fun w ρ ca cx hr _ ra rx => ?_⟩
  obtain ⟨rl, r1⟩ := cells_rel rx hnt
  obtain ⟨ad, w', rfl, e1, q1, q2⟩ := hst gl w ρ ca _ hr ra rl r1
  have hsz : cx.cells.size = n := by have := rl.1; simp at this; omega
  refine ⟨undef, ρ, w', ?_, q2, q1, .undef⟩
  simp [Instr.storeAt, storeVar, Sem.run_bind, Instr.sureAddr, run_size hi, hz, hsz, e1]

/-! new blocks -/
def Allocs (P : Program) (b : Nat) (xs : List AVal) (s : List Value → Sem Value) (v : AVal) (o : AObj) : Prop :=
  ∀ w ρ cxs, ρ b = none → LRel ρ xs cxs → ∃ cv w' tot ob, (s cxs).run P w = .ok cv w' ∧ Push ob w w' ∧ ObjRel (ρ.set b ⟨w.heap.size, 0, tot⟩) w' ⟨w.heap.size, 0, tot⟩ o ∧ VRel (ρ.set b ⟨w.heap.size, 0, tot⟩) v cv
/-- A heap and one that has a new block. -/
def NewIn (H : Heap) (o : AObj) (H' : Heap) : Prop := H'.next = H.next + 1 ∧ ∀ m, H'.f m = if m = H.next then some o else H.f m

theorem Allocs.acts {gl : Fixed} {H H' : Heap} {xs : List AVal} {s : List Value → Sem Value} {v : AVal} {o : AObj} (h : Allocs P H.next xs s v o) (hn : NewIn H o H') : Acts P gl H xs s v H' := by
  intro w ρ cxs hr hf rl
  have hb : ρ H.next = none := hf _ (Nat.le_refl _) (by rw [hn.1]; exact Nat.lt_succ_self _)
  obtain ⟨cv, w', tot, ob, e1, e2, e3, e4⟩ := h w ρ cxs hb rl
  obtain ⟨q1, q2⟩ := hr.new hb e2 hn.2 e3
  exact ⟨cv, _, w', e1, by rw [hn.1]; exact q2, q1, e4⟩

/-- A row that holds cells, as one element. -/
theorem row_obj {ρ : Ren} {w w' : World} {cs : List AVal} {ccs : Array Value} {elem : TypeId} (hp : Push (.cells ccs elem) w w') (hl : LRel ρ cs ccs.toList) (h1 : One ccs.toList) :
    ObjRel ρ w' ⟨w.heap.size, 0, ccs.size⟩ (.cells cs.length 1 true (.nd (some cs) .lf .lf .lf .lf)) := by
  have hsz : cs.length = ccs.size := by simpa using hl.1
  refine ⟨ccs, fun _ => false, ⟨elem, 0, 0, by simp [hp.heap], fun j => by simp⟩, rfl, by simp [hsz], fun i hi => ?_, fun _ _ _ => rfl⟩
  have : i = 0 := by omega
  subst this
  refine ⟨cs, rfl, rfl, fun f v hv => ?_⟩
  obtain ⟨cv, hc, rv⟩ := hl.get hv
  exact ⟨cv, by simpa using hc, rv, h1 cv (List.mem_of_getElem? hc)⟩

theorem newRow_one {cs : List AVal} {H : Heap} {kv : K} (h : newRow cs H kv = 1) : ∃ H', kv (.p H.next 0) H' = 1 ∧ NewIn H (.cells cs.length 1 true (.nd (some cs) .lf .lf .lf .lf)) H' := by
  have h0 : force (len' cs) (fun n => H.new (.cells n 1 true (.nd (some cs) .lf .lf .lf .lf)) fun b H => kv (.p b 0) H) = 1 := h
  rw [force_eq, len'_eq] at h0
  obtain ⟨H', h1, h2, h3⟩ := Heap.new_one h0
  exact ⟨H', h1, h2, h3⟩

/-- 'alloc'. -/
theorem pAlloc_ok {cs : List AVal} {H : Heap} {kv : K} (h : newRow cs H kv = 1) {t : TypeId} {i : TypeInfo} {z : Value} (hi : P.info? t = some i) (hz : i.zero = some z) (hzz : ∀ ρ, LRel ρ cs z.cells.toList) (h1 : One z.cells.toList) :
    ∃ v o H', kv v H' = 1 ∧ NewIn H o H' ∧ Allocs P H.next [] (fun _ => Instr.alloc t true (.tuple #[])) v o := by
  obtain ⟨H', h_1, hn⟩ := newRow_one h
  refine ⟨_, _, H', h_1, hn, fun w ρ cxs hb rl => ?_⟩
  refine ⟨.pointer (some ⟨w.heap.size, 0, none⟩), { w with heap := w.heap.push (.cells z.cells t) }, z.cells.size, .cells z.cells t, ?_, ⟨rfl, rfl, rfl, rfl⟩, row_obj ⟨rfl, rfl, rfl, rfl⟩ ((hzz _)) h1, ?_⟩
  · simp [Instr.alloc, Sem.run_bind, run_zero hi hz, newVar, Go.newRow]
  · have := VRel.p (ρ := ρ.set H.next ⟨w.heap.size, 0, z.cells.size⟩) (b := H.next) (o := 0) (ρ.set_at H.next ⟨w.heap.size, 0, z.cells.size⟩)
    simpa using this
theorem pBox_ok {x : AVal} {H : Heap} {kv : K} (h : pBox x H kv = 1) (t : TypeId) :
    ∃ v o H', kv v H' = 1 ∧ NewIn H o H' ∧ Allocs P H.next [x] (fun l => Instr.box t (l.getD 0 undef)) v o := by
  obtain ⟨h_1, hnt⟩ := cellsOf_one h
  obtain ⟨H', h_2, hn⟩ := newRow_one h_1
  refine ⟨_, _, H', h_2, hn, fun w ρ cxs hb rl => ?_⟩
  obtain ⟨cx, cxs, rfl, rx, rl⟩ := rl.uncons
  rw [rl.nil_inv]
  obtain ⟨r1, r2⟩ := cells_rel rx hnt
  have hle := Ren.le_set ⟨w.heap.size, 0, cx.cells.size⟩ hb
  refine ⟨.pointer (some ⟨w.heap.size, 0, none⟩), { w with heap := w.heap.push (.cells cx.cells t) }, cx.cells.size, .cells cx.cells t, ?_, ⟨rfl, rfl, rfl, rfl⟩, row_obj ⟨rfl, rfl, rfl, rfl⟩ (r1.mono hle) r2, ?_⟩
  · simp [Instr.box, Sem.run_bind, newVar, Go.newRow]
  · have := VRel.p (ρ := ρ.set H.next ⟨w.heap.size, 0, cx.cells.size⟩) (b := H.next) (o := 0) (ρ.set_at H.next ⟨w.heap.size, 0, cx.cells.size⟩)
    simpa using this
theorem pMakeMap_ok {H : Heap} {kv : K} (h : pMakeMap H kv = 1) (t : TypeId) {r : Option AVal} (hr : ∀ x, r = some x → ∃ k e j m, P.underlying t = some (.map k e) ∧ AVal.int? x = some (j, m)) :
    ∃ v o H', kv v H' = 1 ∧ NewIn H o H' ∧ Allocs P H.next r.toList (fun l => Instr.makeMap t l[0]?) v o := by
  obtain ⟨H', h_1, hn⟩ := Heap.new_one h
  refine ⟨_, _, H', h_1, hn, fun w ρ cxs hb rl => ?_⟩
  refine ⟨.map (some w.heap.size), { w with heap := w.heap.push (.map #[] 0) }, 0, .map #[] 0, ?_, ⟨rfl, rfl, rfl, rfl⟩, ⟨#[], by simp, rfl, fun i e c h_1 => by simp at h_1⟩, ?_⟩
  · cases r with
    | none =>
      rw [show cxs = [] from rl.nil_inv]
      simp [Instr.makeMap, Sem.run_bind]
    | some x =>
      obtain ⟨cx, cxs, rfl, rx, rl⟩ := LRel.uncons (v := x) (vs := []) rl
      obtain ⟨k, e, j, m, hu, hx⟩ := hr x rfl
      rw [int_inv rx hx]
      simp [Instr.makeMap, Sem.run_bind, run_und hu, asInt, asIntOf]
  · exact VRel.map (L := ⟨w.heap.size, 0, 0⟩) (ρ.set_at H.next ⟨w.heap.size, 0, 0⟩)

/-- A row that holds elements. -/
theorem elems_obj {ρ : Ren} {w w' : World} {cs : List AVal} {ccs : Array Value} {elem : TypeId} {fr : Nat × Nat} {esz n m : Nat} {t t' : Trie (List AVal)} {wr : Bool} (hp : Push (.cells ccs elem fr) w w') (hfr : fr.1 = fr.2 ∨ ccs.size ≤ fr.1)
    (hl : LRel ρ cs (ccs.toList.take cs.length)) (h1 : One (ccs.toList.take cs.length)) (hm : cs.length = n * esz)
    (ht : ∀ j, t'.look j = if 0 ≤ j ∧ j < 0 + m then some ((cs.drop ((j - 0) * esz)).take esz) else t.look j) (hmn : cs.length = m * esz) (he : n ≤ m) :
    ObjRel ρ w' ⟨w.heap.size, 0, ccs.size⟩ (.cells esz n wr t') := by
  have hle : cs.length ≤ ccs.size := by have := hl.1; simp at this; omega
  refine ⟨ccs, fun j => (decide (fr.1 ≤ j) && decide (j < fr.2)), ⟨elem, fr.1, fr.2, by simp [hp.heap], fun j => rfl⟩, rfl, by simp; omega, fun i hi => ?_, fun j h2 h3 => ?_⟩
  · have g := mul_le_of_lt (e := esz) hi
    refine ⟨_, by rw [ht, if_pos ⟨Nat.zero_le _, by omega⟩], by rw [List.length_take, List.length_drop, Nat.sub_zero]; omega, fun f v hv => ?_⟩
    rw [Nat.sub_zero, List.getElem?_take] at hv
    split at hv
    · rw [List.getElem?_drop] at hv
      obtain ⟨cv, hc, rv⟩ := hl.get hv
      refine ⟨cv, ?_, rv, h1 cv (List.mem_of_getElem? hc)⟩
      rw [List.getElem?_take] at hc
      split at hc
      · simp only [Nat.zero_add]; simpa using hc
      · cases hc
    · cases hv
  · rw [Bool.and_eq_false_iff, decide_eq_false_iff_not, decide_eq_false_iff_not]
    have h3 : j < ccs.size := h3
    omega

end Go.Proofs.YtmgigdklcaepdaaGreatDoor.Ax
end
section
namespace Go.Proofs.YtmgigdklcaepdaaGreatDoor.Ax
set_option linter.unusedVariables false
set_option linter.unusedSimpArgs false

variable {P : Program}

/-- Where the parts of a composite value lie. -/
def PlaceT (P : Program) (t : TypeId) (z : Value) (place : Nat → Option (Nat × Nat)) : Prop :=
  ∀ (parts : List (Nat × Value)) (cells : Array Value), Instr.fill place z.cells parts = some cells → P.built t parts = some cells

theorem pBuild_ok {zero : List AVal} {ps : List (Nat × Nat)} {vs : List AVal} {kv : KP} (h : pBuild zero ps vs kv = 1) {t : TypeId} {z : Value} {place : Nat → Option (Nat × Nat)} (hz : ∀ ρ, LRel ρ zero z.cells.toList) (h1 : One z.cells.toList)
    (hp : PlaceT P t z place) {idx : List Nat} (hi : ps.map some = idx.map place) (hb : ∀ p ∈ ps, p.1 ≤ zero.length) :
    ∃ v, kv v = 1 ∧ ∀ w ρ (cps : Array (Nat × Value)), LRel ρ vs (cps.toList.map (·.2)) → cps.toList.map (·.1) = idx → ∃ cv, (Instr.build t cps).run P w = .ok cv w ∧ VRel ρ v cv := by
  obtain ⟨cs, h2, hnt, h_1⟩ := pParts_one h hb
  refine ⟨_, h_1, fun w ρ cps hl he => ?_⟩
  obtain ⟨ca, h3, h4, h5⟩ := fill_one (place := place) h2 (hz ρ) hl (by rw [hi, ← he, List.map_map]; rfl) h1 hnt
  exact ⟨.agg ca, run_build w t cps ca (hp _ _ h3), .aggL h4 h5⟩

/-- The zeros of a literal slice's cells. -/
def zerosOf (z : Array Value) (n : Nat) : Array Value := (Array.range n).map (z[· % z.size]!)

theorem run_buildSlice {t e : TypeId} {i : TypeInfo} {z : Value} {n : Nat} (ht : P.underlying t = some (.slice e)) (hi : P.info? e = some i) (hz : i.zero = some z) (hs : 0 < n * i.size) (hm : n * i.size ≤ 16777216) (w : World) {parts : Array (Nat × Value)} {cells : Array Value}
    (hf : Instr.fill (fun j => some (j * i.size, i.size)) (zerosOf z.cells (n * i.size)) parts.toList = some cells) :
    (Instr.buildSlice t n parts).run P w = .ok (.slice (some ⟨w.heap.size, 0, none⟩) n n) { w with heap := w.heap.push (.cells cells e) } := by
  unfold zerosOf at hf
  have e0 : ¬ (n * i.size = 0) := by omega
  have e1 : ¬ (n * i.size > 2 ^ 24) := by omega
  simp only [Instr.buildSlice, Sem.run_bind, run_und ht, Result.andThen_ok, run_size hi, if_neg e0, if_neg e1, Sem.run_ite, run_zero hi hz, Sem.run_pure, hf, Go.newRow, run_newObj]

theorem elems_list {cs : List AVal} {n esz m : Nat} (h : cs.length = m * esz) (h2 : cs.length = n * esz) (h0 : 0 < esz) : m = n := by
  rw [h] at h2; exact Nat.eq_of_mul_eq_mul_right h0 h2

theorem pBuildSlice_ok {esz n : Nat} {zero : List AVal} {ps : List (Nat × Nat)} {vs : List AVal} {H : Heap} {kv : K} (h : pBuildSlice esz n zero ps vs H kv = 1) {t e : TypeId} {i : TypeInfo} {z : Value}
    (ht : P.underlying t = some (.slice e)) (hi : P.info? e = some i) (hz : i.zero = some z) (hsz : i.size = esz) (hpos : 0 < n * esz) (hm : n * esz ≤ 16777216) (hlen : zero.length = n * esz)
    (hzz : ∀ ρ, LRel ρ zero (zerosOf z.cells (n * esz)).toList) (h1 : One (zerosOf z.cells (n * esz)).toList) {idx : List Nat} (hx : ps = idx.map fun j => (j * esz, esz)) (hb : ∀ p ∈ ps, p.1 ≤ zero.length) :
    ∃ v o H', kv v H' = 1 ∧ NewIn H o H' ∧ ∀ w ρ (cps : Array (Nat × Value)), ρ H.next = none → LRel ρ vs (cps.toList.map (·.2)) → cps.toList.map (·.1) = idx →
      ∃ cv w' tot ob, (Instr.buildSlice t n cps).run P w = .ok cv w' ∧ Push ob w w' ∧ ObjRel (ρ.set H.next ⟨w.heap.size, 0, tot⟩) w' ⟨w.heap.size, 0, tot⟩ o ∧ VRel (ρ.set H.next ⟨w.heap.size, 0, tot⟩) v cv := by
  obtain ⟨cs, h2, hnt, h_1⟩ := pParts_one h hb
  obtain ⟨t', m, h_2, hl, hm0, hlook⟩ := putElems_one _ h_1
  obtain ⟨H', h_3, hn, hf⟩ := Heap.new_one h_2
  refine ⟨_, _, H', h_3, ⟨hn, hf⟩, fun w ρ cps hb2 hlr he => ?_⟩
  obtain ⟨ca, h3, h4, h5⟩ := fill_one (place := fun j => some (j * esz, esz)) h2 (hzz ρ) hlr (by rw [hx, ← he, List.map_map, List.map_map]; rfl) h1 hnt
  have hcs : cs.length = n * esz := by
    have : ∀ (z : List AVal) (ps : List (Nat × Nat)) (vs cs : List AVal), partsOver z ps vs = some cs → cs.length = z.length := by
      intro z ps
      induction ps generalizing z with
      | nil => intro vs cs h_3; cases vs <;> simp [partsOver] at h_3; rw [h_3]
      | cons p ps ih =>
        intro vs cs h_3
        cases vs with
        | nil => simp [partsOver] at h_3
        | cons v vs =>
          unfold partsOver at h_3
          split at h_3
          · rename_i hc
            rw [ih _ _ _ h_3, over_length _ _ _ hc.2.2]
          · cases h_3
    rw [this _ _ _ _ h2, hlen]
  have hes : 0 < esz := by
    rcases Nat.eq_zero_or_pos esz with e | e
    · subst e; simp at hpos
    · exact e
  have hmn := elems_list hl hcs hes
  subst hmn
  have hca : ca.size = m * esz := by have := h4.1; simp at this; omega
  have hle := Ren.le_set ⟨w.heap.size, 0, ca.size⟩ hb2
  have hrun := run_buildSlice ht hi hz (by rw [hsz]; exact hpos) (by rw [hsz]; exact hm) w (parts := cps) (cells := ca) (by rw [hsz]; exact h3)
  have hpush : Push (.cells ca e) w { w with heap := w.heap.push (.cells ca e) } := ⟨rfl, rfl, rfl, rfl⟩
  have htake : ca.toList.take cs.length = ca.toList := by rw [List.take_of_length_le]; simp; omega
  refine ⟨_, _, ca.size, _, hrun, hpush, elems_obj hpush (.inl rfl) (by rw [htake]; exact h4.mono hle) (by rw [htake]; exact h5) hcs hlook hl (Nat.le_refl _), ?_⟩
  have hm1 : 0 < m := by
    rcases Nat.eq_zero_or_pos m with e | e
    · subst e; simp at hpos
    · exact e
  have := VRel.sl (ρ := ρ.set H.next ⟨w.heap.size, 0, ca.size⟩) (b := H.next) (o := 0) (len := m) (esz := esz) (cap := .ex m) (cc := m) (ρ.set_at H.next ⟨w.heap.size, 0, ca.size⟩) rfl (Nat.le_refl _) hm1 (by simp; omega)
  simpa using this

/-- A row of bytes. -/
theorem bytes_obj {ρ : Ren} {w w' : World} {ccs : Array Value} {elem : TypeId} {fr : Nat × Nat} {n code : Nat} {wr : Bool} (hp : Push (.cells ccs elem fr) w w') (hfr : fr.1 = fr.2 ∨ ccs.size ≤ fr.1) (hc : code < 256 ^ n) (hn : n ≤ ccs.size)
    (hb : ∀ (i : Nat) (b : UInt8), (bytesOf n code)[i]? = some b → ccs[i]? = some (Value.int .u8 (.ofNat b.toNat))) : ObjRel ρ w' ⟨w.heap.size, 0, ccs.size⟩ (.bytes n code wr) := by
  refine ⟨ccs, fun j => (decide (fr.1 ≤ j) && decide (j < fr.2)), ⟨elem, fr.1, fr.2, by simp [hp.heap], fun j => rfl⟩, rfl, by simpa using hn, hc, fun i b h => by simpa using hb i b h, fun j h2 h3 => ?_⟩
  rw [Bool.and_eq_false_iff, decide_eq_false_iff_not, decide_eq_false_iff_not]
  have h3 : j < ccs.size := h3
  omega
theorem sl_new {ρ : Ren} {b c tot len esz cc : Nat} {cap : ACap} (hc : capOk cap cc) (hl : len ≤ cc) (ht : cc * esz ≤ tot) : VRel (ρ.set b ⟨c, 0, tot⟩) (.sl b 0 len esz cap) (.slice (some ⟨c, 0, none⟩) len cc) := by
  rcases Nat.eq_zero_or_pos cc with e | e
  · subst e
    have : len = 0 := by omega
    subst this
    exact .slE (ρ.set_at b ⟨c, 0, tot⟩) hc (by simp)
  · have := VRel.sl (ρ := ρ.set b ⟨c, 0, tot⟩) (b := b) (o := 0) (len := len) (esz := esz) (cap := cap) (cc := cc) (ρ.set_at b ⟨c, 0, tot⟩) hc hl e (by simpa using ht)
    simpa using this

theorem pBuildBytes_ok {n : Nat} {zero : List AVal} {ps : List (Nat × Nat)} {vs : List AVal} {H : Heap} {kv : K} (h : pBuildBytes n zero ps vs H kv = 1) {t e : TypeId} {i : TypeInfo} {z : Value}
    (ht : P.underlying t = some (.slice e)) (hi : P.info? e = some i) (hz : i.zero = some z) (hsz : i.size = 1) (hpos : 0 < n) (hm : n ≤ 16777216) (hlen : zero.length = n)
    (hzz : ∀ ρ, LRel ρ zero (zerosOf z.cells (n * 1)).toList) (h1 : One (zerosOf z.cells (n * 1)).toList) {idx : List Nat} (hx : ps = idx.map fun j => (j * 1, 1)) (hb : ∀ p ∈ ps, p.1 ≤ zero.length) :
    ∃ v o H', kv v H' = 1 ∧ NewIn H o H' ∧ ∀ w ρ (cps : Array (Nat × Value)), ρ H.next = none → LRel ρ vs (cps.toList.map (·.2)) → cps.toList.map (·.1) = idx →
      ∃ cv w' tot ob, (Instr.buildSlice t n cps).run P w = .ok cv w' ∧ Push ob w w' ∧ ObjRel (ρ.set H.next ⟨w.heap.size, 0, tot⟩) w' ⟨w.heap.size, 0, tot⟩ o ∧ VRel (ρ.set H.next ⟨w.heap.size, 0, tot⟩) v cv := by
  obtain ⟨cs, h2, hnt, h_1⟩ := pParts_one h hb
  obtain ⟨l, code, h_2, hl, hlt, hbs⟩ := cellsStr_one h_1
  obtain ⟨he, h_3⟩ := ifB_true h_2 (by decide)
  have he := Nat.eq_of_beq_eq_true he
  subst he
  obtain ⟨H', h_4, hn, hf⟩ := Heap.new_one h_3
  refine ⟨_, _, H', h_4, ⟨hn, hf⟩, fun w ρ cps hb2 hlr hidx => ?_⟩
  obtain ⟨ca, h3, h4, h5⟩ := fill_one (place := fun j => some (j * 1, 1)) h2 (hzz ρ) hlr (by rw [hx, ← hidx, List.map_map, List.map_map]; rfl) h1 hnt
  have hzl : cs.length = l := by omega
  have hca : ca.size = l := by have := h4.1; simp at this; omega
  have hrun := run_buildSlice (n := l) ht hi hz (by rw [hsz]; omega) (by rw [hsz]; omega) w (parts := cps) (cells := ca) (by rw [hsz]; exact h3)
  have hpush : Push (.cells ca e) w { w with heap := w.heap.push (.cells ca e) } := ⟨rfl, rfl, rfl, rfl⟩
  have hby := hbs ρ _ h4
  refine ⟨_, _, ca.size, _, hrun, hpush, bytes_obj hpush (.inl rfl) hlt (by omega) (fun i b hb' => ?_), sl_new rfl (Nat.le_refl _) (by omega)⟩
  have : ca.toList[i]? = some (.int .u8 (.ofNat b.toNat)) := by rw [hby, List.getElem?_map, hb']; rfl
  simpa using this

theorem pConvSB_ok {x : AVal} {H : Heap} {kv : K} (h : pConvSB x H kv = 1) (e : TypeId) : ∃ v o H', kv v H' = 1 ∧ NewIn H o H' ∧ ∀ w ρ cx, ρ H.next = none → VRel ρ x cx →
    ∃ s cv w' tot ob, cx = .string s ∧ (Conv.stringToBytes e s).run P w = .ok cv w' ∧ Push ob w w' ∧ ObjRel (ρ.set H.next ⟨w.heap.size, 0, tot⟩) w' ⟨w.heap.size, 0, tot⟩ o ∧ VRel (ρ.set H.next ⟨w.heap.size, 0, tot⟩) v cv := by
  obtain ⟨n, a, rfl, h_1⟩ := onStr_one h
  obtain ⟨H', h_2, hn, hf⟩ := Heap.new_one h_1
  refine ⟨_, _, H', h_2, ⟨hn, hf⟩, fun w ρ cx hb rx => ?_⟩
  obtain ⟨rfl, ha⟩ := str_inv rx
  have hcap : ∃ cap, n ≤ cap ∧ (choose (.appendCap (txt n a).size 0 e)).run P w = .ok cap { w with drawn := w.drawn + 1 } := by
    refine ⟨_, ?_, by simp only [run_choose, Question.forced]; rfl⟩
    rw [txt_size]; exact Nat.le_add_right _ _
  obtain ⟨cap, hcl, hcr⟩ := hcap
  let arr : Array Value := ((txt n a).data.map fun b => Value.int .u8 b.toNat) ++ Array.replicate (cap - (txt n a).size) (Value.int .u8 0)
  have harr : arr.size = cap := by
    show (((txt n a).data.map fun b => Value.int .u8 b.toNat) ++ Array.replicate (cap - (txt n a).size) (Value.int .u8 0)).size = cap
    have : (txt n a).data.size = n := txt_size n a
    simp [this, txt_size]; omega
  refine ⟨txt n a, .slice (some ⟨w.heap.size, 0, none⟩) n cap, { w with heap := w.heap.push (.cells arr e (cap, cap + 1)), drawn := w.drawn + 1 }, cap, .cells arr e (cap, cap + 1), rfl, ?_, ⟨rfl, rfl, rfl, rfl⟩, ?_, sl_new hcl hcl (by omega)⟩
  · simp only [Conv.stringToBytes, Sem.run_bind, hcr, Result.andThen_ok, Go.newRow, run_newObj, Sem.run_pure, markStringish, run_shape]
    have hs : World.shape? { w with heap := w.heap.push (.cells arr e), drawn := w.drawn + 1 } w.heap.size = some (e, cap) := by
      simp [World.shape?, harr]
    have hs' := hs
    dsimp only [arr] at hs'
    rw [txt_size] at hs' ⊢
    simp only [hs', Sem.run_bind, run_freeze, Result.andThen_ok, Sem.run_pure]
    congr 1
    unfold World.freeze
    rw [if_neg (by decide)]
    congr 1
    apply Array.ext_getElem?
    intro j
    rw [Array.getElem?_modify]
    by_cases hj : w.heap.size = j
    · subst hj; simp [arr, txt_size]
    · rw [if_neg hj, Array.getElem?_push, Array.getElem?_push]
      rw [if_neg (by omega), if_neg (by omega)]
  · have hpush : Push (.cells arr e (cap, cap + 1)) w { w with heap := w.heap.push (.cells arr e (cap, cap + 1)), drawn := w.drawn + 1 } := ⟨rfl, rfl, rfl, rfl⟩
    have := bytes_obj (ρ := ρ.set H.next ⟨w.heap.size, 0, arr.size⟩) (wr := true) hpush (.inr (by omega)) ha (by omega) (fun i b hb' => ?_)
    · rw [harr] at this; exact this
    · have hi : i < n := by
        rcases Nat.lt_or_ge i n with g | g
        · exact g
        · rw [List.getElem?_eq_none (by rw [bytesOf_length]; exact g)] at hb'; cases hb'
      show (((txt n a).data.map fun b => Value.int .u8 b.toNat) ++ Array.replicate (cap - (txt n a).size) (Value.int .u8 0))[i]? = _
      rw [Array.getElem?_append_left (by rw [Array.size_map]; have : (txt n a).data.size = n := txt_size n a; omega), Array.getElem?_map]
      have : (txt n a).data[i]? = some b := by
        have : (txt n a).data.toList[i]? = some b := by rw [txt_toList]; exact hb'
        simpa using this
      rw [this]; rfl

end Go.Proofs.YtmgigdklcaepdaaGreatDoor.Ax
end

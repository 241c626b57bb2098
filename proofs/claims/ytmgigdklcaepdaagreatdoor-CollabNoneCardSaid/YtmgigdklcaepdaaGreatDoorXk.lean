/-
  Append to a slice of bytes. · Append as a whole. · Append: the operation.
-/
import Derived.Test.YtmgigdklcaepdaaGreatDoorXj
set_option linter.unusedVariables false
set_option linter.unusedSimpArgs false
section
namespace Go.Proofs.YtmgigdklcaepdaaGreatDoor.Ax
set_option linter.unusedVariables false
set_option linter.unusedSimpArgs false

variable {P : Program}

def AppB (P : Program) (gl : Fixed) (b o len : Nat) (cap : ACap) (H : Heap) (n nw : Nat) (v : AVal) (H' : Heap) : Prop :=
  ∀ w ρ cc L, HR gl H.f ρ w → Fresh ρ H.next H'.next → ρ b = some L → capOk cap cc → len ≤ cc → L.d + o + cc * 1 ≤ L.tot → nw < 256 ^ n →
    (len + n ≤ cc → ∃ w2 ρ', (storeCells ⟨L.c, L.d + o + len * 1, none⟩ (bcells n nw)).run P w = .ok () w2 ∧ Grow H.f ρ w H.next H'.f ρ' w2 H'.next ∧ HR gl H'.f ρ' w2 ∧ VRel ρ' v (.slice (some ⟨L.c, L.d + o, none⟩) (len + n) cc)) ∧
    (cc < len + n → ∀ newCap w2 (rest : Array Value) (old : List Value) elem, len + n ≤ newCap → (∀ arr fz, rowAt w L.c arr fz → old = (arr.toList.drop (L.d + o)).take (len * 1)) → rest.size = (newCap - (len + n)) * 1 →
      Push (.cells (old.toArray ++ (bcells n nw).toArray ++ rest) elem) w w2 → ∃ ρ', Grow H.f ρ w H.next H'.f ρ' w2 H'.next ∧ HR gl H'.f ρ' w2 ∧ VRel ρ' v (.slice (some ⟨w.heap.size, 0, none⟩) (len + n) newCap))

theorem newBytes_one {m code : Nat} {wr : Bool} {H : Heap} {kv : K} (h : newBytes m code wr H kv = 1) : ∃ H', kv (.sl H.next 0 m 1 (.ge m)) H' = 1 ∧ NewIn H (.bytes m code wr) H' := by
  have h0 : force code (fun code => H.new (.bytes m code wr) fun b H => kv (.sl b 0 m 1 (.ge m)) H) = 1 := h
  rw [force_eq] at h0
  obtain ⟨H', h1, h2, h3⟩ := Heap.new_one h0
  exact ⟨H', h1, h2, h3⟩

theorem bcells_get {n nw i : Nat} {b : UInt8} (h : (bytesOf n nw)[i]? = some b) : (bcells n nw)[i]? = some (.int .u8 (.ofNat b.toNat)) := by
  unfold bcells; rw [List.getElem?_map, h]; rfl

/-- Old bytes, then new ones. -/
theorem join_bytes {code o len n nw m : Nat} (hm : o + len ≤ m) {arr2 : Array Value} {d2 : Nat} {arr : Array Value} {d : Nat} (hby : ∀ (i : Nat) (b : UInt8), (bytesOf m code)[i]? = some b → arr[d + i]? = some (Value.int .u8 (.ofNat b.toNat)))
    (hm1 : ∀ p, p < len → arr2[d2 + p]? = arr[d + o + p]?) (hm2 : ∀ (j : Nat) (v : Value), (bcells n nw)[j]? = some v → arr2[d2 + len + j]? = some v) (i : Nat) (b : UInt8)
    (hb : (bytesOf (len + n) (cutN code o len + nw * 256 ^ len))[i]? = some b) : arr2[d2 + i]? = some (Value.int .u8 (.ofNat b.toNat)) := by
  rw [← bytesOf_append len n _ _ (cutN_lt _ _ _)] at hb
  by_cases hi : i < len
  · rw [List.getElem?_append_left (by rw [bytesOf_length]; exact hi)] at hb
    rw [hm1 i hi, Nat.add_assoc]
    exact hby _ _ (bytes_cut hm i b hb)
  · rw [List.getElem?_append_right (by rw [bytesOf_length]; omega), bytesOf_length] at hb
    have := hm2 _ _ (bcells_get hb)
    rw [show d2 + len + (i - len) = d2 + i by omega] at this
    exact this

theorem bytes_row {ρ : Ren} {w w2 : World} {o len n nw m code newCap b' : Nat} {wr wr' : Bool} {old : List Value} {rest : Array Value} {elem : TypeId} {L : Loc}
    (hO : ObjRel ρ w L (.bytes m code wr)) (hm : o + len ≤ m) (hnw : nw < 256 ^ n) (hlen : L.d + o + len ≤ L.tot) (hcap : len + n ≤ newCap)
    (hold : ∀ arr fz, rowAt w L.c arr fz → old = (arr.toList.drop (L.d + o)).take (len * 1)) (hrest : rest.size = (newCap - (len + n)) * 1) (hp : Push (.cells (old.toArray ++ (bcells n nw).toArray ++ rest) elem) w w2) :
    ∃ tot, newCap * 1 ≤ tot ∧ ObjRel (ρ.set b' ⟨w.heap.size, 0, tot⟩) w2 ⟨w.heap.size, 0, tot⟩ (.bytes (len + n) (cutN code o len + nw * 256 ^ len) wr') := by
  obtain ⟨arr, fz, hrow, hs, hnn, hlt, hby, hz⟩ := hO
  have ho := hold arr fz hrow
  obtain ⟨p1, p2⟩ := row_parts (new := bcells n nw) (rest := rest) ho (by omega)
  have hsz : (old.toArray ++ (bcells n nw).toArray ++ rest).size = newCap := by
    have : old.length = len := by rw [ho]; simp; omega
    simp [this, bcells_length, hrest]
    omega
  refine ⟨(old.toArray ++ (bcells n nw).toArray ++ rest).size, by omega, bytes_obj hp (.inl rfl) (append_lt len n _ _ (cutN_lt _ _ _) hnw) (by omega) fun i b hb => ?_⟩
  have := join_bytes (arr2 := old.toArray ++ (bcells n nw).toArray ++ rest) (d2 := 0) hm hby (fun p hp => p1 p (by omega)) (fun j v hv => by have := p2 j v hv; rw [Nat.mul_one] at this; exact this) i b hb
  simpa using this

theorem appBytes_ok {gl : Fixed} {b o len : Nat} {cap : ACap} {m code : Nat} {wr : Bool} {n nw : Nat} {H : Heap} {kv : K} (h : appBytes b o len cap m code wr n nw (len + n) H kv = 1) (hob : H.f b = some (.bytes m code wr)) :
    ∃ v H', kv v H' = 1 ∧ AppB P gl b o len cap H n nw v H' := by
  have h0 : ifB (andB (Nat.ble (len + n) cap.low) (Nat.ble (Nat.add o (len + n)) m))
    (ifB wr (force (overN m code (Nat.add o len) n nw) fun code => H.put b (.bytes m code wr) fun H => kv (.sl b o (len + n) 1 cap) H) 429)
    (ifB (Nat.ble (Nat.add o len) m)
      (ACap.rec (fun c => ifB (Nat.ble (len + n) c) 430 (newBytes (len + n) (Nat.add (cutN code o len) (Nat.shiftLeft nw (Nat.mul 8 len))) true H kv))
        (fun _ => ifB (orB wr (Nat.beq (Nat.add o len) m)) (H.put b .dead fun H => newBytes (len + n) (Nat.add (cutN code o len) (Nat.shiftLeft nw (Nat.mul 8 len))) wr H kv) 431) cap)
      432) = 1 := h
  rw [shl8] at h0
  rcases ifB_one h0 with ⟨hc, h1⟩ | ⟨hc, h1⟩
  · obtain ⟨hcap, hbd⟩ := andB_true hc
    have hcap := Nat.le_of_ble_eq_true hcap
    have hbd : o + (len + n) ≤ m := Nat.le_of_ble_eq_true hbd
    obtain ⟨hwr, h2⟩ := ifB_true h1 (by decide)
    rw [force_eq] at h2
    obtain ⟨H', h3, hn, hf⟩ := Heap.put_one h2
    refine ⟨_, H', h3, fun w ρ cc L hr hfr hb hcc hlc htot hnw => ⟨fun hnc => ?_, fun hnc => ?_⟩⟩
    · obtain ⟨arr, fz, hrow, hs, hnn, hlt, hby, hz⟩ := hr.obj b _ _ hb hob
      rw [hwr] at hz
      have hbl := bcells_length n nw
      obtain ⟨w2, arr', g1, g2, g3, g4⟩ := run_storeRow (P := P) (bcells n nw) L.c (L.d + o + len * 1) 0 w arr fz hrow (by omega) (fun j h1 h2 => hz j (by simp; omega) (by omega)) (bcells_one n nw)
      obtain ⟨q3, q4⟩ := overN_ok (n := m) (code := code) (o := o + len) (m := n) (new := nw) (by omega) hnw
      have hO : ObjRel ρ w2 L (.bytes m (overN m code (o + len) n nw) wr) := by
        have hsz : arr'.size = arr.size := by
          have := congrArg List.length g3
          rw [over_length _ _ _ (by simp; omega)] at this
          simpa using this
        refine ⟨arr', fz, g2, by omega, hnn, q3, fun i b' hb' => ?_, fun j h1 h2 => hz j (by rw [hwr] at h1; exact h1) h2⟩
        have goal : arr'.toList[L.d + i]? = some (.int .u8 (.ofNat b'.toNat)) := by
          rw [g3, over_get _ _ _ _ (by simp; omega)]
          rw [q4, over_get _ _ _ _ (by rw [bytesOf_length, bytesOf_length]; omega), bytesOf_length] at hb'
          by_cases hi : o + len ≤ i ∧ i < o + len + n
          · rw [if_pos hi] at hb'
            rw [if_pos (by omega), show L.d + i - (L.d + o + len * 1 + 0) = i - (o + len) by omega]
            exact bcells_get hb'
          · rw [if_neg hi] at hb'
            rw [if_neg (by omega)]
            simpa using hby i b' hb'
        simpa using goal
      obtain ⟨q1, q2⟩ := hr.put hb hob (by intro x; cases x) g4 hf hO
      refine ⟨w2, ρ, g1, by rw [hn]; exact q2 _, q1, ?_⟩
      rcases Nat.eq_zero_or_pos cc with hp | hp
      · subst hp
        have e : len + n = 0 := by omega
        rw [e]
        exact .slE hb hcc (by omega)
      · exact .sl hb hcc hnc hp htot
    · have := capOk_low hcc; omega
  · obtain ⟨hm, h2⟩ := ifB_true h1 (by decide)
    have hm : o + len ≤ m := Nat.le_of_ble_eq_true hm
    cases cap with
    | ex c =>
      have h3 : ifB (Nat.ble (len + n) c) 430 (newBytes (len + n) (cutN code o len + nw * 256 ^ len) true H kv) = 1 := h2
      have hboth : Nat.ble (len + n) c = false ∧ newBytes (len + n) (cutN code o len + nw * 256 ^ len) true H kv = 1 := by
        rcases ifB_one h3 with ⟨_, q⟩ | ⟨q1, q2⟩
        · cases q
        · exact ⟨q1, q2⟩
      obtain ⟨hnc, h4⟩ := hboth
      have hnc : c < len + n := by
        rcases Nat.lt_or_ge c (len + n) with g | g
        · exact g
        · rw [Nat.ble_eq_true_of_le g] at hnc; cases hnc
      obtain ⟨H', h5, hn⟩ := newBytes_one h4
      refine ⟨_, H', h5, fun w ρ cc L hr hfr hb hcc hlc htot hnw => ⟨fun hnc' => ?_, fun _ newCap w2 rest old elem hcap hold hrest hp => ?_⟩⟩
      · have hcc : cc = c := hcc
        omega
      · have hb' : ρ H.next = none := hfr _ (Nat.le_refl _) (by rw [hn.1]; exact Nat.lt_succ_self _)
        obtain ⟨tot, htt, hO⟩ := bytes_row (b' := H.next) (wr' := true) (hr.obj b _ _ hb hob) hm hnw (by omega) hcap hold hrest hp
        obtain ⟨q1, q2⟩ := hr.new hb' hp hn.2 hO
        exact ⟨_, by rw [hn.1]; exact q2, q1, sl_new hcap hcap htt⟩
    | ge c =>
      have h3 : ifB (orB wr (Nat.beq (Nat.add o len) m)) (H.put b .dead fun H => newBytes (len + n) (cutN code o len + nw * 256 ^ len) wr H kv) 431 = 1 := h2
      obtain ⟨hor, h4⟩ := ifB_true h3 (by decide)
      obtain ⟨Hd, h5, hdn, hdf⟩ := Heap.put_one h4
      obtain ⟨H', h6, hn⟩ := newBytes_one h5
      have hnx : H'.next = H.next + 1 := by rw [hn.1, hdn]
      have hff : ∀ q, H'.f q = if q = H.next then some (.bytes (len + n) (cutN code o len + nw * 256 ^ len) wr) else if q = b then some .dead else H.f q := by
        intro q
        rw [hn.2, hdn, hdf]
      rw [hdn] at h6
      refine ⟨_, H', h6, fun w ρ cc L hr hfr hb hcc hlc htot hnw => ?_⟩
      have hb' : ρ H.next = none := hfr _ (Nat.le_refl _) (by rw [hnx]; exact Nat.lt_succ_self _)
      have lv : live H.f b := ⟨_, hob, by intro x; cases x⟩
      refine ⟨fun hnc => ?_, fun _ newCap w2 rest old elem hcap hold hrest hp => ?_⟩
      · obtain ⟨arr, fz, hrow, hs, hnn, hlt, hby, hz⟩ := hr.obj b _ _ hb hob
        have hz' : ∀ j, L.d + o + len ≤ j → j < L.tot → fz j = false := by
          intro j h1 h2
          refine hz j ?_ h2
          rcases orB_true hor with e | e
          · rw [e]; simp; omega
          · have e : o + len = m := Nat.eq_of_beq_eq_true e
            split <;> omega
        have hbl := bcells_length n nw
        obtain ⟨w2, arr', g1, g2, g3, g4⟩ := run_storeRow (P := P) (bcells n nw) L.c (L.d + o + len * 1) 0 w arr fz hrow (by omega) (fun j h1 h2 => hz' j (by omega) (by omega)) (bcells_one n nw)
        have hsz : arr'.size = arr.size := by
          have := congrArg List.length g3
          rw [over_length _ _ _ (by simp; omega)] at this
          simpa using this
        have hO : ObjRel (ρ.set H.next ⟨L.c, L.d + o, L.tot⟩) w2 ⟨L.c, L.d + o, L.tot⟩ (.bytes (len + n) (cutN code o len + nw * 256 ^ len) wr) := by
          refine ⟨arr', fz, g2, by show arr'.size = L.tot; omega, by show L.d + o + (len + n) ≤ L.tot; omega, append_lt len n _ _ (cutN_lt _ _ _) hnw, fun i b' hb2 => ?_, fun j h1 h2 => ?_⟩
          · exact join_bytes hm hby (arr2 := arr') (d2 := L.d + o) (fun p hp => by
              have : arr'.toList[L.d + o + p]? = arr.toList[L.d + o + p]? := by
                rw [g3, over_get _ _ _ _ (by simp; omega), if_neg (by omega)]
              simpa using this) (fun j v hv => by
              have hj : j < (bcells n nw).length := by
                rcases Nat.lt_or_ge j (bcells n nw).length with g | g
                · exact g
                · rw [List.getElem?_eq_none g] at hv; cases hv
              have : arr'.toList[L.d + o + len + j]? = some v := by
                rw [g3, over_get _ _ _ _ (by simp; omega), if_pos (by omega)]
                rw [show L.d + o + len + j - (L.d + o + len * 1 + 0) = j by omega]; exact hv
              simpa using this) i b' hb2
          · have hjt : j < L.tot := h2
            have hj1 : (if wr then L.d + o else L.d + o + (len + n)) ≤ j := h1
            cases wr with
            | true => exact hz j (by simp at hj1 ⊢; omega) hjt
            | false =>
              have hj2 : L.d + o + (len + n) ≤ j := hj1
              exact hz' j (by omega) hjt
        obtain ⟨q1, q2⟩ := hr.alias hb lv hb' g4 hff hO
        refine ⟨w2, _, g1, by rw [hnx]; exact q2, q1, ?_⟩
        rcases Nat.eq_zero_or_pos cc with hp | hp
        · subst hp
          have e : len + n = 0 := by omega
          rw [e]
          exact .slE (ρ.set_at H.next ⟨L.c, L.d + o, L.tot⟩) (by simp [capOk]) (by show L.d + o + 0 ≤ L.tot; omega)
        · have := VRel.sl (ρ := ρ.set H.next ⟨L.c, L.d + o, L.tot⟩) (b := H.next) (o := 0) (len := len + n) (esz := 1) (cap := .ge (len + n)) (cc := cc) (ρ.set_at H.next ⟨L.c, L.d + o, L.tot⟩) hnc hnc hp (by show L.d + o + 0 + cc * 1 ≤ L.tot; omega)
          simpa using this
      · obtain ⟨tot, htt, hO⟩ := bytes_row (b' := H.next) (wr' := wr) (hr.obj b _ _ hb hob) hm hnw (by omega) hcap hold hrest hp
        obtain ⟨q1, q2⟩ := hr.lose hb' hp hff hO
        exact ⟨_, by rw [hnx]; exact q2, q1, sl_new hcap hcap htt⟩

end Go.Proofs.YtmgigdklcaepdaaGreatDoor.Ax
end
section
namespace Go.Proofs.YtmgigdklcaepdaaGreatDoor.Ax
set_option linter.unusedVariables false
set_option linter.unusedSimpArgs false

variable {P : Program}

/-- The types of an append, in the model. -/
structure AppT (P : Program) (t u e : TypeId) (i : TypeInfo) (z : Value) (esz : Nat) : Prop where
  ht : P.underlying t = some (.slice e)
  hu : ∃ du, P.underlying u = some du ∧ (du = .string ∨ ∃ e', du = .slice e')
  hi : P.info? e = some i
  hz : i.zero = some z
  hsz : i.size = esz
  hzs : z.cells.size = esz
  hby : i.bytes ≤ 4096

theorem zeroCells_size (z : Array Value) (n : Nat) : (Builtin.zeroCells z n).size = n * z.size := by simp [Builtin.zeroCells]

/-- A slice's own elements, as they are read. -/
theorem src_self {w : World} {c p len cc esz : Nat} {arr : Array Value} {fz : Nat → Bool} (hrow : rowAt w c arr fz) (h : p + len * esz ≤ arr.size) : SrcR P w esz (.slice (some ⟨c, p, none⟩) len cc) len ((arr.toList.drop p).take (len * esz)) := by
  refine ⟨rfl, by simp; omega, fun m hm w' hw' => ?_⟩
  have hmm : m * esz ≤ len * esz := Nat.mul_le_mul_right esz hm
  simp only [Builtin.firstCells]
  rw [run_loadRow (rowAt_heap hrow hw') (m * esz) (by omega), List.take_take, Nat.min_eq_left (by omega)]
theorem src_nil {w : World} {esz : Nat} : SrcR P w esz (.slice none 0 0) 0 [] := ⟨rfl, by simp, fun m hm w' _ => by simp [Builtin.firstCells]⟩
theorem src_zero {w : World} {esz cc : Nat} {a : Addr} : SrcR P w esz (.slice (some a) 0 cc) 0 [] := ⟨rfl, by simp, fun m hm w' _ => by
  have : m = 0 := by omega
  subst this
  simp [Builtin.firstCells, loadCells, loadCellsFrom]⟩

def isRow : AObj → Bool
  | .cells _ _ _ _ | .bytes _ _ _ => true
  | _ => false
theorem HR.row {gl : Fixed} {f : Nat → Option AObj} {ρ : Ren} {w : World} (hr : HR gl f ρ w) {b : Nat} {L : Loc} {o : AObj} (hb : ρ b = some L) (ho : f b = some o) (hd : isRow o = true) :
    ∃ arr fz, rowAt w L.c arr fz ∧ arr.size = L.tot := by
  cases o with
  | cells e n wr t => obtain ⟨arr, fz, h1, h2, _⟩ := hr.obj b L _ hb ho; exact ⟨arr, fz, h1, h2⟩
  | bytes n c wr => obtain ⟨arr, fz, h1, h2, _⟩ := hr.obj b L _ hb ho; exact ⟨arr, fz, h1, h2⟩
  | _ => cases hd
theorem rowAt_inj {w : World} {c : Nat} {arr arr' : Array Value} {fz fz' : Nat → Bool} (h : rowAt w c arr fz) (k : rowAt w c arr' fz') : arr = arr' := by
  obtain ⟨_, _, _, h_1, _⟩ := h
  obtain ⟨_, _, _, k, _⟩ := k
  rw [h_1] at k
  injection k with k
  injection k

/-- From what is done with a block to what append does. -/
theorem app_finish {gl : Fixed} {t u e ty : TypeId} {i : TypeInfo} {z : Value} {esz : Nat} (T : AppT P t u e i z esz) {w : World} {ρ : Ren} {b o len n : Nat} {cap : ACap} {H H' : Heap} {v : AVal} {cx cy : Value} {new : List Value}
    (hr : HR gl H.f ρ w) (rx : VRel ρ (.sl b o len esz cap) cx) (hy : SrcR P w esz cy n new) (hmax : len + n ≤ 1000000) (hob : ∃ ob, H.f b = some ob ∧ isRow ob = true)
    (h : ∀ cc L, ρ b = some L → capOk cap cc → len ≤ cc → L.d + o + cc * esz ≤ L.tot →
      (len + n ≤ cc → ∃ w2 ρ', (storeCells ⟨L.c, L.d + o + len * esz, none⟩ new).run P w = .ok () w2 ∧ Grow H.f ρ w H.next H'.f ρ' w2 H'.next ∧ HR gl H'.f ρ' w2 ∧ VRel ρ' v (.slice (some ⟨L.c, L.d + o, none⟩) (len + n) cc)) ∧
      (cc < len + n → ∀ newCap w2 (rest : Array Value) (old : List Value) elem, len + n ≤ newCap → (∀ arr fz, rowAt w L.c arr fz → old = (arr.toList.drop (L.d + o)).take (len * esz)) → rest.size = (newCap - (len + n)) * esz →
        Push (.cells (old.toArray ++ new.toArray ++ rest) elem) w w2 → ∃ ρ', Grow H.f ρ w H.next H'.f ρ' w2 H'.next ∧ HR gl H'.f ρ' w2 ∧ VRel ρ' v (.slice (some ⟨w.heap.size, 0, none⟩) (len + n) newCap)))
    (hn : 0 < n) : ∃ cv ρ' w', (Builtin.append_ #[t, u] ty #[cx, cy]).run P w = .ok cv w' ∧ Grow H.f ρ w H.next H'.f ρ' w' H'.next ∧ HR gl H'.f ρ' w' ∧ VRel ρ' v cv := by
  obtain ⟨du, hu, hdu⟩ := T.hu
  have T1 := T.hsz
  subst T1
  obtain ⟨ob, hob, hd⟩ := hob
  cases rx with
  | @sl _ _ _ _ _ cc L hb hc hl hp ht =>
    obtain ⟨h1, h2⟩ := h cc L hb hc hl ht
    obtain ⟨arr, fz, hrow, hs⟩ := hr.row hb hob hd
    have hlm : len * i.size ≤ cc * i.size := Nat.mul_le_mul_right _ hl
    rcases Nat.lt_or_ge cc (len + n) with g | g
    · obtain ⟨newCap, w', g1, g2, g3⟩ := run_grow (ty := ty) T.ht hu hdu T.hi T.hz T.hby (src_self (P := P) (cc := cc) (p := L.d + o) (len := len) (esz := i.size) hrow (by omega)) hy g hmax
      obtain ⟨ρ', q1, q2, q3⟩ := h2 g newCap w' _ _ e g1 (fun arr' fz' hrow' => by rw [rowAt_inj hrow' hrow]) (by rw [zeroCells_size, T.hzs]) g3
      exact ⟨_, ρ', w', g2, q1, q2, q3⟩
    · obtain ⟨w2, ρ', q0, q1, q2, q3⟩ := h1 g
      refine ⟨_, ρ', w2, ?_, q1, q2, q3⟩
      rw [run_inplace T.ht hu hdu T.hi hy g, addr_add', q0]
      rfl
  | @slE _ _ _ _ a L hb hc ht =>
    obtain ⟨h1, h2⟩ := h 0 L hb hc (Nat.le_refl _) (by omega)
    obtain ⟨newCap, w', g1, g2, g3⟩ := run_grow (ty := ty) T.ht hu hdu T.hi T.hz T.hby (src_zero (P := P) (a := a) (cc := 0)) hy (by omega) hmax
    obtain ⟨ρ', q1, q2, q3⟩ := h2 (by omega) newCap w' _ _ e g1 (fun arr' fz' hrow' => by simp) (by rw [zeroCells_size, T.hzs]) g3
    exact ⟨_, ρ', w', g2, q1, q2, q3⟩

theorem strCells_one (n : Nat) : ∀ {code : Nat} {k : List AVal → Nat}, strCells n code k = 1 → ∃ cs, k cs = 1 ∧ ∀ ρ, LRel ρ cs (bcells n code) := by
  induction n with
  | zero => intro code k h; exact ⟨[], h, fun ρ => .nil⟩
  | succ n ih =>
    intro code k h
    have h0 : force (Nat.mod code 256) (fun c => strCells n (Nat.div code 256) fun r => k (.z (.int .u8 (.ofNat c)) :: r)) = 1 := h
    rw [force_eq] at h0
    obtain ⟨cs, h1, h2⟩ := ih h0
    refine ⟨_, h1, fun ρ => ?_⟩
    have e : bcells (n + 1) code = Value.int .u8 (.ofNat (code % 256)) :: bcells n (code / 256) := by
      unfold bcells
      simp only [bytesOf, List.map_cons]
      rw [u8_nat (Nat.mod_lt _ (by decide))]
    rw [e]
    exact .cons (.int _ _) (h2 ρ)

/-- Into no slice at all. -/
theorem app_nil {gl : Fixed} {t u e ty : TypeId} {i : TypeInfo} {z : Value} {esz : Nat} (T : AppT P t u e i z esz) {w : World} {ρ : Ren} {n : Nat} {H H' : Heap} {cy : Value} {new : List Value} {ob : AObj}
    (hr : HR gl H.f ρ w) (hfr : Fresh ρ H.next H'.next) (hy : SrcR P w esz cy n new) (hn : 0 < n) (hmax : n ≤ 1000000) (hN : NewIn H ob H')
    (hO : ∀ newCap w2 elem (rest : Array Value), n ≤ newCap → Push (.cells (new.toArray ++ rest) elem) w w2 → ObjRel (ρ.set H.next ⟨w.heap.size, 0, (new.toArray ++ rest).size⟩) w2 ⟨w.heap.size, 0, (new.toArray ++ rest).size⟩ ob) :
    ∃ cv ρ' w', (Builtin.append_ #[t, u] ty #[.slice none 0 0, cy]).run P w = .ok cv w' ∧ Grow H.f ρ w H.next H'.f ρ' w' H'.next ∧ HR gl H'.f ρ' w' ∧ VRel ρ' (.sl H.next 0 n esz (.ge n)) cv := by
  obtain ⟨du, hu, hdu⟩ := T.hu
  have T1 := T.hsz
  subst T1
  obtain ⟨newCap, w', g1, g2, g3⟩ := run_grow (ty := ty) T.ht hu hdu T.hi T.hz T.hby (src_nil (P := P)) hy (by omega) (by omega)
  have hb' : ρ H.next = none := hfr _ (Nat.le_refl _) (by rw [hN.1]; exact Nat.lt_succ_self _)
  have e0 : (([] : List Value).toArray ++ new.toArray ++ Builtin.zeroCells z.cells (newCap - (0 + n))) = new.toArray ++ Builtin.zeroCells z.cells (newCap - (0 + n)) := by simp
  rw [e0] at g3
  obtain ⟨q1, q2⟩ := hr.new hb' g3 hN.2 (hO newCap w' e _ (by omega) g3)
  refine ⟨_, _, w', g2, by rw [hN.1]; exact q2, q1, ?_⟩
  rw [Nat.zero_add]
  refine sl_new (by show n ≤ newCap; omega) (by omega) ?_
  have : new.length = n * i.size := hy.2.1
  simp [zeroCells_size, T.hzs, this]
  rw [← Nat.add_mul]
  exact Nat.mul_le_mul_right _ (by omega)

end Go.Proofs.YtmgigdklcaepdaaGreatDoor.Ax
end
section
namespace Go.Proofs.YtmgigdklcaepdaaGreatDoor.Ax
set_option linter.unusedVariables false
set_option linter.unusedSimpArgs false

variable {P : Program}

/-- Of no elements: nothing is done. -/
theorem app_zero {gl : Fixed} {t u e ty : TypeId} {i : TypeInfo} {z : Value} {esz : Nat} (T : AppT P t u e i z esz) {x : AVal} {H : Heap} {kv : K} (h : onSl x (fun _ _ _ _ _ => kv x H) (kv (.z (.cst 1)) H) = 1) :
    kv x H = 1 ∧ ∀ w ρ cx cy new, HR gl H.f ρ w → VRel ρ x cx → SrcR P w esz cy 0 new → (Builtin.append_ #[t, u] ty #[cx, cy]).run P w = .ok cx w := by
  obtain ⟨du, hu, hdu⟩ := T.hu
  have T1 := T.hsz
  subst T1
  have run : ∀ (w : World) (a : Addr) (len cc : Nat) (cy : Value) (new : List Value), SrcR P w i.size cy 0 new → len ≤ cc → (Builtin.append_ #[t, u] ty #[.slice (some a) len cc, cy]).run P w = .ok (.slice (some a) len cc) w := by
    intro w a len cc cy new hy hl
    have hn : new = [] := List.eq_nil_of_length_eq_zero (by rw [hy.2.1]; omega)
    rw [run_inplace (ty := ty) T.ht hu hdu T.hi hy (by omega), hn]
    simp [storeCells]
  rcases onSl_one h with ⟨b, o, n, es, c, e0, h1⟩ | ⟨e0, h1⟩
  · refine ⟨h1, fun w ρ cx cy new hr rx hy => ?_⟩
    subst e0
    cases rx with
    | sl hb hc hl hp ht => exact run w _ _ _ cy new hy hl
    | slE hb hc ht => exact run w _ _ _ cy new hy (Nat.le_refl _)
  · refine ⟨by rw [e0]; exact h1, fun w ρ cx cy new hr rx hy => ?_⟩
    subst e0
    cases rx
    exact run_none T.ht hu hdu T.hi hy

theorem pAppend_ok {gl : Fixed} {t u e : TypeId} (ty : TypeId) {i : TypeInfo} {z : Value} {esz : Nat} (T : AppT P t u e i z esz) (hes : 0 < esz) {x y : AVal} {H : Heap} {kv : K} (h : pAppend esz x y H kv = 1) :
    ∃ v H', kv v H' = 1 ∧ Acts2 P gl H (fun x y => Builtin.append_ #[t, u] ty #[x, y]) x y v H' := by
  rcases srcCells_one (P := P) h with ⟨n, cs, h1, hsrc⟩ | ⟨n, nw, h1, hsrc⟩
  · rcases ifB_one h1 with ⟨e0, h2⟩ | ⟨e0, h2⟩
    · have e0 := Nat.eq_of_beq_eq_true e0
      subst e0
      obtain ⟨h3, hrun⟩ := app_zero (gl := gl) (ty := ty) T h2
      refine ⟨_, H, h3, fun w ρ cx cy hr _ rx ry => ?_⟩
      obtain ⟨ccs, hy, _⟩ := hsrc gl w ρ cy hr ry
      exact ⟨cx, ρ, w, hrun w ρ cx cy ccs hr rx hy, Grow.refl _ _ _ _, hr, rx⟩
    · have hn : 0 < n := by
        rcases Nat.eq_zero_or_pos n with q | q
        · subst q; cases e0
        · exact q
      rcases onSl_one h2 with ⟨b, o, len, sz, cap, ex, h3⟩ | ⟨ex, h3⟩
      · subst ex
        obtain ⟨es0, h4⟩ := ifB_true h3 (by decide)
        have es0 := Nat.eq_of_beq_eq_true es0
        subst es0
        have h5 : force (Nat.add len n) (fun need => ifB (Nat.ble need 1000000) (H.get b fun ob => onCells ob
          (fun es cnt w t => ifB (andB (Nat.ble need cap.low) (Nat.ble (Nat.add o (Nat.mul need sz)) (Nat.mul cnt es)))
            (ifB w (writeCells es cnt t (Nat.add o (Nat.mul len sz)) cs fun t => H.put b (.cells es cnt w t) fun H => kv (.sl b o need sz cap) H) 433)
            (ACap.rec (fun c => ifB (Nat.ble need c) 434 (appNew sz es cnt t o len need cs H kv)) (fun _ => appLose sz b es cnt w t o len need cs H kv) cap))
          (fun m code w => cellsStr cs fun n' new => ifB (Nat.beq n n') (appBytes b o len cap m code w n new need H kv) 435)) 444) = 1 := h4
        rw [force_eq] at h5
        obtain ⟨hmax, h6⟩ := ifB_true h5 (by decide)
        have hmax : len + n ≤ 1000000 := Nat.le_of_ble_eq_true hmax
        obtain ⟨ob, hob, h7⟩ := Heap.get_one h6
        rcases onCells_one h7 with ⟨es, cnt, wr, tr, eo, h8⟩ | ⟨m, cd, wr, eo, h8⟩
        · subst eo
          obtain ⟨v, H', h9, hA⟩ := appCells (P := P) (gl := gl) h8 (by decide) (by decide) rfl hob hes
          refine ⟨v, H', h9, fun w ρ cx cy hr hfr rx ry => ?_⟩
          obtain ⟨ccs, hy, hl, h1'⟩ := hsrc gl w ρ cy hr ry
          exact app_finish T hr rx hy hmax ⟨_, hob, rfl⟩ (fun cc L hb hc hlc ht => hA w ρ cc L n ccs hr hfr hb hc hlc ht rfl hl h1' hy.2.1) hn
        · subst eo
          obtain ⟨n', nw, h9, hn', hnw, hbs⟩ := cellsStr_one h8
          obtain ⟨en, h10⟩ := ifB_true h9 (by decide)
          have en := Nat.eq_of_beq_eq_true en
          subst en
          obtain ⟨v, H', h11, hA⟩ := appBytes_ok (P := P) (gl := gl) h10 hob
          refine ⟨v, H', h11, fun w ρ cx cy hr hfr rx ry => ?_⟩
          obtain ⟨ccs, hy, hl, h1'⟩ := hsrc gl w ρ cy hr ry
          have hcc : ccs = bcells n nw := hbs ρ ccs hl
          have hs1 : sz = 1 := by
            have := hy.2.1
            rw [← hl.1, ← hn'] at this
            have h3 : n * 1 = n * sz := by omega
            exact (Nat.eq_of_mul_eq_mul_left hn h3).symm
          subst hs1
          subst hcc
          exact app_finish T hr rx hy hmax ⟨_, hob, rfl⟩ (fun cc L hb hc hlc ht => hA w ρ cc L hr hfr hb hc hlc ht hnw) hn
      · subst ex
        obtain ⟨hmax, h4⟩ := ifB_true h3 (by decide)
        have hmax : n ≤ 1000000 := Nat.le_of_ble_eq_true hmax
        obtain ⟨t', m, h5, hl, hm0, hlook⟩ := putElems_one _ h4
        obtain ⟨H', h6, hnx, hf⟩ := Heap.new_one h5
        refine ⟨_, H', h6, fun w ρ cx cy hr hfr rx ry => ?_⟩
        obtain ⟨ccs, hy, hlr, h1'⟩ := hsrc gl w ρ cy hr ry
        cases rx
        have hcs : cs.length = n * esz := by rw [hlr.1]; exact hy.2.1
        have hmn := elems_list hl hcs hes
        subst hmn
        have hb' : ρ H.next = none := hfr _ (Nat.le_refl _) (by rw [hnx]; exact Nat.lt_succ_self _)
        refine app_nil T hr hfr hy hn hmax ⟨hnx, hf⟩ fun newCap w2 el rest hcap hp => ?_
        have htake : (ccs.toArray ++ rest).toList.take cs.length = ccs := by rw [hlr.1]; simp
        exact elems_obj hp (.inl rfl) (by rw [htake]; exact hlr.mono (Ren.le_set _ hb')) (by rw [htake]; exact h1') hcs hlook hl (Nat.le_refl _)
  · rcases ifB_one h1 with ⟨e0, h2⟩ | ⟨e0, h2⟩
    · have e0 := Nat.eq_of_beq_eq_true e0
      subst e0
      obtain ⟨h3, hrun⟩ := app_zero (gl := gl) (ty := ty) T h2
      refine ⟨_, H, h3, fun w ρ cx cy hr _ rx ry => ?_⟩
      obtain ⟨_, hy⟩ := hsrc gl w ρ cy hr ry
      exact ⟨cx, ρ, w, hrun w ρ cx cy _ hr rx (hy (.inr rfl)), Grow.refl _ _ _ _, hr, rx⟩
    · have hn : 0 < n := by
        rcases Nat.eq_zero_or_pos n with q | q
        · subst q; cases e0
        · exact q
      obtain ⟨hs1, h3⟩ := ifB_true h2 (by decide)
      have hs1 := Nat.eq_of_beq_eq_true hs1
      subst hs1
      rcases onSl_one h3 with ⟨b, o, len, sz, cap, ex, h4⟩ | ⟨ex, h4⟩
      · subst ex
        obtain ⟨es0, h5⟩ := ifB_true h4 (by decide)
        have es0 := Nat.eq_of_beq_eq_true es0
        subst es0
        have h6 : force (Nat.add len n) (fun need => ifB (Nat.ble need 1000000) (H.get b fun ob => onCells ob
          (fun es cnt w t => strCells n nw fun cs => ifB (andB (Nat.ble need cap.low) (Nat.ble (Nat.add o need) (Nat.mul cnt es)))
            (ifB w (writeCells es cnt t (Nat.add o len) cs fun t => H.put b (.cells es cnt w t) fun H => kv (.sl b o need 1 cap) H) 436)
            (ACap.rec (fun c => ifB (Nat.ble need c) 437 (appNew 1 es cnt t o len need cs H kv)) (fun _ => appLose 1 b es cnt w t o len need cs H kv) cap))
          (fun m code w => appBytes b o len cap m code w n nw need H kv)) 445) = 1 := h5
        rw [force_eq] at h6
        obtain ⟨hmax, h7⟩ := ifB_true h6 (by decide)
        have hmax : len + n ≤ 1000000 := Nat.le_of_ble_eq_true hmax
        obtain ⟨ob, hob, h8⟩ := Heap.get_one h7
        rcases onCells_one h8 with ⟨es, cnt, wr, tr, eo, h9⟩ | ⟨m, cd, wr, eo, h9⟩
        · subst eo
          obtain ⟨cs, h10, hcs⟩ := strCells_one n h9
          obtain ⟨v, H', h11, hA⟩ := appCells (P := P) (gl := gl) h10 (by decide) (by decide) (by show o + len = o + len * 1; omega) hob hes
          refine ⟨v, H', h11, fun w ρ cx cy hr hfr rx ry => ?_⟩
          obtain ⟨_, hy⟩ := hsrc gl w ρ cy hr ry
          have hy := hy (.inl rfl)
          exact app_finish T hr rx hy hmax ⟨_, hob, rfl⟩ (fun cc L hb hc hlc ht => hA w ρ cc L n _ hr hfr hb hc hlc ht rfl (hcs ρ) (bcells_one n nw) hy.2.1) hn
        · subst eo
          obtain ⟨v, H', h11, hA⟩ := appBytes_ok (P := P) (gl := gl) h9 hob
          refine ⟨v, H', h11, fun w ρ cx cy hr hfr rx ry => ?_⟩
          obtain ⟨hnw, hy⟩ := hsrc gl w ρ cy hr ry
          have hy := hy (.inl rfl)
          exact app_finish T hr rx hy hmax ⟨_, hob, rfl⟩ (fun cc L hb hc hlc ht => hA w ρ cc L hr hfr hb hc hlc ht hnw) hn
      · subst ex
        obtain ⟨hmax, h5⟩ := ifB_true h4 (by decide)
        have hmax : n ≤ 1000000 := Nat.le_of_ble_eq_true hmax
        obtain ⟨H', h6, hN⟩ := newBytes_one h5
        refine ⟨_, H', h6, fun w ρ cx cy hr hfr rx ry => ?_⟩
        obtain ⟨hnw, hy⟩ := hsrc gl w ρ cy hr ry
        have hy := hy (.inl rfl)
        cases rx
        refine app_nil T hr hfr hy hn hmax hN fun newCap w2 el rest hcap hp => ?_
        have hbl := bcells_length n nw
        refine bytes_obj hp (.inl rfl) hnw (by simp; omega) fun j b hb => ?_
        have hj : j < n := by
          rcases Nat.lt_or_ge j n with g | g
          · exact g
          · rw [List.getElem?_eq_none (by rw [bytesOf_length]; exact g)] at hb; cases hb
        rw [Array.getElem?_append_left (by simp; omega), List.getElem?_toArray]
        exact bcells_get hb

end Go.Proofs.YtmgigdklcaepdaaGreatDoor.Ax
end

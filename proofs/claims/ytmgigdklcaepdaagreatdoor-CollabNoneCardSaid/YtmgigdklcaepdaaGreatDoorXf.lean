/-
  Operations that read memory: loads. · Maps: keys, finding, reading.
-/
import Derived.Test.YtmgigdklcaepdaaGreatDoorXe
import Derived.Laws.Cells
set_option linter.unusedVariables false
set_option linter.unusedSimpArgs false
section
namespace Go.Proofs.YtmgigdklcaepdaaGreatDoor.Ax
set_option linter.unusedVariables false
set_option linter.unusedSimpArgs false

variable {P : Program}

theorem Heap.get_one {H : Heap} {b : Nat} {k : AObj → Nat} (h : H.get b k = 1) : ∃ o, H.f b = some o ∧ k o = 1 := by
  obtain ⟨t, n⟩ := H
  exact Trie.get_one h (by decide)
theorem onCells_one {o : AObj} {k : Nat → Nat → Bool → Trie (List AVal) → Nat} {kb : Nat → Nat → Bool → Nat} (h : onCells o k kb = 1) :
    (∃ e n w t, o = .cells e n w t ∧ k e n w t = 1) ∨ ∃ n c w, o = .bytes n c w ∧ kb n c w = 1 := by
  cases o with
  | cells e n w t => exact .inl ⟨e, n, w, t, rfl, h⟩
  | bytes n c w => exact .inr ⟨n, c, w, rfl, h⟩
  | _ => cases h
theorem onMapO_one {o : AObj} {k : List MEnt → Nat → Nat} (h : onMapO o k = 1) : ∃ es c, o = .map es c ∧ k es c = 1 := by
  cases o with
  | map es c => exact ⟨es, c, rfl, h⟩
  | _ => cases h
theorem onIter_one {o : AObj} {k : Option Nat → Nat → List Nat → Nat → Nat} (h : onIter o k = 1) : ∃ m s l t, o = .iter m s l t ∧ k m s l t = 1 := by
  cases o with
  | iter m s l t => exact ⟨m, s, l, t, rfl, h⟩
  | _ => cases h

/-- The package-level variables whose values are known. -/
def GOk (gl : Fixed) (G : Glob) : Prop := ∀ g o kv, G g o kv = 1 → ∃ v cv arr ty fz, kv v = 1 ∧ (g, Obj.cells arr ty fz) ∈ gl ∧ arr[o]? = some cv ∧ ∀ ρ, VRel ρ v cv

theorem cell_row {w : World} {c : Nat} {arr : Array Value} {fz : Nat → Bool} (h : rowAt w c arr fz) (j : Nat) : w.cell? ⟨c, j, none⟩ = arr[j]? := by
  obtain ⟨ty, lo, hi, hb, _⟩ := h
  simp [World.cell?, hb]
theorem frozen_row {w : World} {c : Nat} {arr : Array Value} {fz : Nat → Bool} (h : rowAt w c arr fz) (j : Nat) : w.frozen? ⟨c, j, none⟩ = fz j := by
  obtain ⟨ty, lo, hi, hb, hf⟩ := h
  simp [World.frozen?, hb, hf]

theorem readCell_one {esz cnt : Nat} {t : Trie (List AVal)} {o : Nat} {k : AVal → Nat} (h : readCell esz cnt t o k = 1) :
    ∃ i f cs v, o = i * esz + f ∧ i < cnt ∧ t.look i = some cs ∧ cs[f]? = some v ∧ k v = 1 := by
  obtain ⟨h1, h_1⟩ := ifB_true h (by decide)
  have h1 : o + 1 ≤ cnt * esz := Nat.le_of_ble_eq_true h1
  have hpos : 0 < esz := by
    rcases Nat.eq_zero_or_pos esz with e | e
    · subst e; omega
    · exact e
  rcases ifB_one h_1 with ⟨h2, h_2⟩ | ⟨_, h_2⟩
  · have h2 : o + 1 ≤ esz := Nat.le_of_ble_eq_true h2
    obtain ⟨cs, h3, h_3⟩ := Trie.get_one h_2 (by decide)
    obtain ⟨v, h4, h_4⟩ := nth_one h_3
    refine ⟨0, o, cs, v, by omega, ?_, h3, h4, h_4⟩
    rcases Nat.eq_zero_or_pos cnt with e | e
    · subst e; omega
    · exact e
  · obtain ⟨cs, h3, h_5⟩ := Trie.get_one h_2 (by decide)
    obtain ⟨v, h4, h_6⟩ := nth_one h_5
    refine ⟨o / esz, o % esz, cs, v, ?_, ?_, h3, h4, h_6⟩
    · have := Nat.div_add_mod o esz; rw [Nat.mul_comm] at this; exact this.symm
    · rw [Nat.div_lt_iff_lt_mul hpos]; omega

/-- Cells in a row of the model. -/
def CellsAt (ρ : Ren) (arr : Array Value) (p : Nat) (cs : List AVal) : Prop := ∀ j v, cs[j]? = some v → ∃ cv, arr[p + j]? = some cv ∧ VRel ρ v cv ∧ cv.oneCell' = true
theorem CellsAt.app {ρ : Ren} {arr : Array Value} {p : Nat} {a b : List AVal} (h : CellsAt ρ arr p a) (k : CellsAt ρ arr (p + a.length) b) : CellsAt ρ arr p (a ++ b) := by
  intro j v hv
  by_cases hj : j < a.length
  · rw [List.getElem?_append_left hj] at hv; exact h j v hv
  · rw [List.getElem?_append_right (by omega)] at hv
    have := k _ v hv
    rw [show p + a.length + (j - a.length) = p + j by omega] at this
    exact this
theorem CellsAt.take {ρ : Ren} {arr : Array Value} {p : Nat} {a : List AVal} (n : Nat) (h : CellsAt ρ arr p a) : CellsAt ρ arr p (a.take n) := by
  intro j v hv
  rw [List.getElem?_take] at hv
  split at hv
  · exact h j v hv
  · cases hv
theorem CellsAt.drop {ρ : Ren} {arr : Array Value} {p : Nat} {a : List AVal} (n : Nat) (h : CellsAt ρ arr p a) : CellsAt ρ arr (p + n) (a.drop n) := by
  intro j v hv
  rw [List.getElem?_drop] at hv
  have := h _ v hv
  rw [← Nat.add_assoc] at this
  exact this
theorem CellsAt.list {ρ : Ren} {arr : Array Value} {p : Nat} {cs : List AVal} (h : CellsAt ρ arr p cs) : LRel ρ cs ((arr.toList.drop p).take cs.length) ∧ One ((arr.toList.drop p).take cs.length) ∧ p + cs.length ≤ max arr.size p := by
  have hsz : ∀ j, j < cs.length → p + j < arr.size := by
    intro j hj
    obtain ⟨cv, hc, _⟩ := h j _ (List.getElem?_eq_getElem hj)
    exact (Array.getElem?_eq_some_iff.mp hc).1
  have hle : cs.length ≤ arr.size - p := by
    rcases Nat.eq_zero_or_pos cs.length with e | e
    · omega
    · have := hsz (cs.length - 1) (by omega); omega
  refine ⟨⟨by simp; omega, fun j x y hx hy => ?_⟩, fun y hy => ?_, by omega⟩
  · rw [List.getElem?_take] at hy
    split at hy
    · rw [List.getElem?_drop] at hy
      obtain ⟨cv, hc, hv, _⟩ := h j x hx
      have hc : arr.toList[p + j]? = some cv := by simpa using hc
      rw [hc] at hy; injection hy with e; exact e ▸ hv
    · cases hy
  · obtain ⟨j, hj⟩ := List.mem_iff_getElem?.mp hy
    rw [List.getElem?_take] at hj
    split at hj
    · rename_i hl
      rw [List.getElem?_drop] at hj
      obtain ⟨cv, hc, _, h1⟩ := h j _ (List.getElem?_eq_getElem hl)
      have hc : arr.toList[p + j]? = some cv := by simpa using hc
      rw [hc] at hj; injection hj with e; exact e ▸ h1
    · cases hj

/-- All elements of a block. -/
def ElemsAt (ρ : Ren) (arr : Array Value) (d esz n : Nat) (t : Trie (List AVal)) : Prop :=
  ∀ i, i < n → ∃ cs, t.look i = some cs ∧ cs.length = esz ∧ CellsAt ρ arr (d + i * esz) cs

theorem elems_one {t : Trie (List AVal)} {esz cnt : Nat} (n : Nat) : ∀ {i : Nat} {k : List AVal → Nat}, elems t n i k = 1 → ∃ cs, k cs = 1 ∧
    ∀ ρ arr d, i + n ≤ cnt → ElemsAt ρ arr d esz cnt t → cs.length = n * esz ∧ CellsAt ρ arr (d + i * esz) cs := by
  induction n with
  | zero => intro i k h; exact ⟨[], h, fun ρ arr d _ _ => ⟨by simp, fun j v hv => by simp at hv⟩⟩
  | succ n ih =>
    intro i k h
    have h0 : t.get i (fun c => elems t n (Nat.succ i) fun r => appL c r k) 334 = 1 := h
    obtain ⟨c, h1, h2⟩ := Trie.get_one h0 (by decide)
    obtain ⟨r, h3, h4⟩ := ih h2
    rw [appL_eq] at h3
    refine ⟨_, h3, fun ρ arr d hn he => ?_⟩
    obtain ⟨cs, e1, e2, e3⟩ := he i (by omega)
    rw [h1] at e1; injection e1 with e1; subst e1
    obtain ⟨g1, g2⟩ := h4 ρ arr d (by omega) he
    refine ⟨by rw [List.length_append, e2, g1, Nat.succ_mul, Nat.add_comm], e3.app ?_⟩
    rw [e2]
    have : d + i * esz + esz = d + (i + 1) * esz := by rw [Nat.add_mul, Nat.one_mul, Nat.add_assoc]
    rw [this]; exact g2

theorem readCells_one {esz cnt : Nat} {t : Trie (List AVal)} {o n : Nat} {k : List AVal → Nat} (h : readCells esz cnt t o n k = 1) :
    ∃ cs, k cs = 1 ∧ ∀ ρ arr d, ElemsAt ρ arr d esz cnt t → cs.length = n ∧ CellsAt ρ arr (d + o) cs := by
  obtain ⟨h1, h_1⟩ := ifB_true h (by decide)
  have h1 : o + n ≤ cnt * esz := Nat.le_of_ble_eq_true h1
  rw [force_eq, force_eq] at h_1
  rcases ifB_one h_1 with ⟨h2, h_2⟩ | ⟨_, h_2⟩
  · have h2 : o % esz + n ≤ esz := Nat.le_of_ble_eq_true h2
    obtain ⟨c, h3, h_3⟩ := Trie.get_one h_2 (by decide)
    rw [dropL_eq] at h_3
    obtain ⟨h4, h_4⟩ := takeL_one h_3
    refine ⟨_, h_4, fun ρ arr d he => ?_⟩
    have h4 : n ≤ (c.drop (o % esz)).length := h4
    refine ⟨by show ((c.drop (o % esz)).take n).length = n; rw [List.length_take]; omega, ?_⟩
    rcases Nat.eq_zero_or_pos n with hn | hn
    · subst hn
      intro j v hv
      have hv : ((c.drop (o % esz)).take 0)[j]? = some v := hv
      simp at hv
    · have hpos : 0 < esz := by omega
      have hi : o / esz < cnt := by rw [Nat.div_lt_iff_lt_mul hpos]; omega
      obtain ⟨cs, e1, e2, e3⟩ := he _ hi
      rw [show t.look (o / esz) = some c from h3] at e1; injection e1 with e1; subst e1
      have := (e3.drop (o % esz)).take n
      rw [show d + o / esz * esz + o % esz = d + o by have := Nat.div_add_mod o esz; rw [Nat.mul_comm] at this; omega] at this
      exact this
  · obtain ⟨h2, h_5⟩ := ifB_true h_2 (by decide)
    obtain ⟨h2, h3⟩ := andB_true h2
    have h2 : o % esz = 0 := Nat.eq_of_beq_eq_true h2
    have h3 : n % esz = 0 := Nat.eq_of_beq_eq_true h3
    obtain ⟨cs, h_6, hc⟩ := elems_one (esz := esz) (cnt := cnt) _ h_5
    refine ⟨cs, h_6, fun ρ arr d he => ?_⟩
    have e1 : o / esz * esz = o := Nat.div_mul_cancel (Nat.dvd_of_mod_eq_zero h2)
    have e2 : n / esz * esz = n := Nat.div_mul_cancel (Nat.dvd_of_mod_eq_zero h3)
    have hle : o / esz + n / esz ≤ cnt ∨ esz = 0 := by
      rcases Nat.eq_zero_or_pos esz with e | e
      · exact .inr e
      · left
        have : (o / esz + n / esz) * esz ≤ cnt * esz := by rw [Nat.add_mul, e1, e2]; exact h1
        exact Nat.le_of_mul_le_mul_right this e
    rcases hle with hle | hle
    · obtain ⟨g1, g2⟩ := hc ρ arr d hle he
      exact ⟨g1.trans e2, by rw [← e1]; exact g2⟩
    · subst hle
      obtain ⟨g1, g2⟩ := hc ρ arr d (by show o / 0 + n / 0 ≤ cnt; simp) he
      exact ⟨g1.trans e2, by rw [← e1]; exact g2⟩

theorem ObjRel.elems {ρ : Ren} {w : World} {L : Loc} {esz n : Nat} {wr : Bool} {t : Trie (List AVal)} (h : ObjRel ρ w L (.cells esz n wr t)) :
    ∃ arr fz, rowAt w L.c arr fz ∧ arr.size = L.tot ∧ L.d + n * esz ≤ L.tot ∧ ElemsAt ρ arr L.d esz n t ∧ ∀ j, (if wr then L.d else L.d + n * esz) ≤ j → j < L.tot → fz j = false := by
  obtain ⟨arr, fz, hr, hs, hn, hc, hz⟩ := h
  exact ⟨arr, fz, hr, hs, hn, fun i hi => let ⟨cs, a, b, c⟩ := hc i hi; ⟨cs, a, b, fun j v hv => c j v hv⟩, hz⟩

theorem run_loadRow {w : World} {c p : Nat} {arr : Array Value} {fz : Nat → Bool} (h : rowAt w c arr fz) (n : Nat) (hn : p + n ≤ arr.size) : (loadCells ⟨c, p, none⟩ n).run P w = .ok ((arr.toList.drop p).take n).toArray w := by
  have hl : ((arr.toList.drop p).take n).length = n := by simp; omega
  have := run_loadCells_list (P := P) w ⟨c, p, none⟩ ((arr.toList.drop p).take n) (fun j v hv => by
    rw [addr_add', cell_row h]
    rw [List.getElem?_take] at hv
    split at hv
    · rw [List.getElem?_drop] at hv; simpa using hv
    · cases hv)
  rw [hl] at this
  exact this

/-- Of a type that is no struct, no array. -/
def isAggD : TypeDesc → Bool
  | .struct _ | .array _ _ => true
  | _ => false
theorem run_isAgg {t : TypeId} {d : TypeDesc} (h : P.underlying t = some d) (w : World) : (isAgg t).run P w = .ok (isAggD d) w := by
  unfold isAgg
  simp only [Sem.run_bind, run_und h, Result.andThen_ok]
  cases d <;> rfl

/-- What a read gives in every world that the heap stands for. -/
def Reads (P : Program) (gl : Fixed) (H : Heap) (s : Value → Sem Value) (x v : AVal) : Prop := ∀ w ρ cx, HR gl H.f ρ w → VRel ρ x cx → ∃ cv, (s cx).run P w = .ok cv w ∧ VRel ρ v cv

theorem byte_at {n code : Nat} (i : Nat) (h : i < n) : (bytesOf n code)[i]? = some (UInt8.ofNat (byteAt code i)) := by rw [bytesOf_get _ _ _ h, byteAt_eq]
theorem byteAt_lt (code i : Nat) : byteAt code i < 256 := by rw [byteAt_eq]; exact Nat.mod_lt _ (by decide)
theorem u8_nat {m : Nat} (h : m < 256) : (UInt8.ofNat m).toNat = m := by simp; omega

theorem pLoad_ok {gl : Fixed} {G : Glob} {x : AVal} {H : Heap} {kv : KP} (h : pLoad G x H kv = 1) (hG : GOk gl G) {t : TypeId} {d : TypeDesc} (ht : P.underlying t = some d) (hd : isAggD d = false) :
    ∃ v, kv v = 1 ∧ Reads P gl H (Instr.loadAt t) x v := by
  have run : ∀ (w : World) (a : Addr) (cv : Value), w.cell? a = some cv → (Instr.loadAt t (.pointer (some a))).run P w = .ok cv w := by
    intro w a cv hc
    simp [Instr.loadAt, Sem.run_bind, Instr.sureAddr, loadVar, run_isAgg ht, hd, hc]
  rcases onPtr_one h with ⟨b, o, rfl, h_1⟩ | ⟨g, o, rfl, h_1⟩
  · obtain ⟨ob, hob, h_2⟩ := Heap.get_one h_1
    rcases onCells_one h_2 with ⟨e, n, wr, tr, rfl, h_3⟩ | ⟨n, c, wr, rfl, h_3⟩
    · obtain ⟨i, f, cs, v, ho, hi, hl, hv, h_4⟩ := readCell_one h_3
      refine ⟨v, h_4, fun w ρ cx hr rx => ?_⟩
      cases rx with
      | p hb =>
        obtain ⟨arr, fz, hrow, hs, hn, he, hz⟩ := (hr.obj b _ _ hb hob).elems
        obtain ⟨cs', e1, e2, e3⟩ := he i hi
        rw [hl] at e1; injection e1 with e1; subst e1
        obtain ⟨cv, hc, rv, _⟩ := e3 f v hv
        refine ⟨cv, run w _ cv ?_, rv⟩
        rw [cell_row hrow, ← hc, ho, Nat.add_assoc]
    · obtain ⟨h1, h_5⟩ := ifB_true h_3 (by decide)
      rw [force_eq] at h_5
      have h1 : o < n := Nat.le_of_ble_eq_true h1
      refine ⟨_, h_5, fun w ρ cx hr rx => ?_⟩
      cases rx with
      | p hb =>
        obtain ⟨arr, fz, hrow, hs, hn, hlt, hc, hz⟩ := hr.obj b _ _ hb hob
        have := hc o _ (byte_at o h1)
        rw [u8_nat (byteAt_lt _ _)] at this
        exact ⟨_, run w _ _ (by rw [cell_row hrow]; exact this), .int _ _⟩
  · obtain ⟨v, cv, arr, ty, fz, h_6, hm, hc, hv⟩ := hG g o kv h_1
    refine ⟨v, h_6, fun w ρ cx hr rx => ?_⟩
    cases rx with
    | gptr => exact ⟨cv, run w _ cv (by simp [World.cell?, (hr.fixd g _ hm).1, hc]), hv ρ⟩

theorem pLoadN_ok {gl : Fixed} {n : Nat} {x : AVal} {H : Heap} {kv : KP} (h : pLoadN n x H kv = 1) {t : TypeId} {d : TypeDesc} {i : TypeInfo} (ht : P.underlying t = some d) (hd : isAggD d = true) (hi : P.info? t = some i) (hz : i.size = n) :
    ∃ v, kv v = 1 ∧ Reads P gl H (Instr.loadAt t) x v := by
  rcases onPtr_one h with ⟨b, o, rfl, h_1⟩ | ⟨g, o, rfl, h_1⟩
  · obtain ⟨ob, hob, h_2⟩ := Heap.get_one h_1
    rcases onCells_one h_2 with ⟨e, m, wr, tr, rfl, h_3⟩ | ⟨m, c, wr, rfl, h_3⟩
    · obtain ⟨cs, h_4, hcs⟩ := readCells_one h_3
      refine ⟨_, h_4, fun w ρ cx hr rx => ?_⟩
      cases rx with
      | p hb =>
        obtain ⟨arr, fz, hrow, hs, hn, he, _⟩ := (hr.obj b _ _ hb hob).elems
        obtain ⟨hl, hca⟩ := hcs ρ arr _ he
        obtain ⟨r1, r2, r3⟩ := hca.list
        rw [hl] at r1 r2 r3
        have hle : ∀ p, p + n ≤ max arr.size p → 0 < n → p + n ≤ arr.size := by omega
        rcases Nat.eq_zero_or_pos n with e0 | e0
        · subst e0
          refine ⟨.agg #[], ?_, .aggL (by rw [List.eq_nil_of_length_eq_zero hl]; exact .nil) (by intro y hy; simp at hy)⟩
          simp [Instr.loadAt, Sem.run_bind, Instr.sureAddr, loadVar, run_isAgg ht, hd, run_size hi, hz, loadCells, loadCellsFrom]
        · refine ⟨_, ?_, .aggL r1 r2⟩
          simp only [Instr.loadAt, Sem.run_bind, Instr.sureAddr, loadVar, run_isAgg ht, hd, run_size hi, hz, Sem.run_pure, Result.andThen_ok, Sem.run_ite, if_true, run_loadRow hrow n (hle _ r3 e0)]
    · cases h_3
  · cases h_1

theorem pLenM_ok {gl : Fixed} {x : AVal} {H : Heap} {kv : KP} (h : pLenM x H kv = 1) {t k e : TypeId} (ht : P.underlying t = some (.map k e)) (ty : TypeId) (ts : Array TypeId) (hts : ts[0]? = some t) :
    ∃ v, kv v = 1 ∧ Reads P gl H (fun x => Builtin.len_ ts ty #[x]) x v := by
  rcases onMap_one h with ⟨b, rfl, h_1⟩ | ⟨rfl, h_1⟩
  · obtain ⟨ob, hob, h_2⟩ := Heap.get_one h_1
    obtain ⟨es, c, rfl, h_3⟩ := onMapO_one h_2
    rw [force_eq, len'_eq] at h_3
    refine ⟨_, h_3, fun w ρ cx hr rx => ?_⟩
    cases rx with
    | map hb =>
      obtain ⟨ces, hc, hl, _⟩ := hr.obj b _ _ hb hob
      refine ⟨_, ?_, .n _⟩
      simp [Builtin.len_, Sem.run_bind, run_und ht, goInt, hts, getObj, Sem.run, hc, hl]
  · refine ⟨_, h_1, fun w ρ cx hr rx => ?_⟩
    cases rx; refine ⟨_, ?_, .n _⟩; simp [Builtin.len_, Sem.run_bind, run_und ht, goInt, hts]

end Go.Proofs.YtmgigdklcaepdaaGreatDoor.Ax
end
section
namespace Go.Proofs.YtmgigdklcaepdaaGreatDoor.Ax
set_option linter.unusedVariables false
set_option linter.unusedSimpArgs false

variable {P : Program}

/-- Types of keys: texts, and flat structs. -/
def KeyT (P : Program) (kt : TypeId) (ts : List Nat) : Prop :=
  (ts = [] ∧ P.underlying kt = some .string) ∨ ∃ fs, P.underlying kt = some (.struct fs) ∧ FlatS P fs.toList ts 0 ∧ ts ≠ [] ∧ P.stoodInHeld kt = false

/-- Two keys, in the model. -/
def KeyR (P : Program) (kt : TypeId) (a b : Value) (r : Bool) : Prop :=
  ((∃ s t, a = .string s ∧ b = .string t ∧ P.underlying kt = some .string ∧ (s == t) = r) ∨
   (∃ xs ys fs ts, a = .agg xs ∧ b = .agg ys ∧ P.underlying kt = some (.struct fs) ∧ FlatS P fs.toList ts 0 ∧ ScL ts xs.toList ys.toList r ∧ ∀ w, (Op.equal kt a b).run P w = .ok r w))

theorem keq_one {ts : List Nat} {x y : AVal} {k : Bool → Nat} (h : keq ts x y k = 1) {kt : TypeId} (hk : KeyT P kt ts) : ∃ r, k r = 1 ∧ ∀ ρ cx cy, VRel ρ x cx → VRel ρ y cy → KeyR P kt cx cy r := by
  rcases hk with ⟨rfl, ht⟩ | ⟨fs, ht, hf, hne, hp⟩
  · have h0 : eqCk 2 x y k = 1 := h
    obtain ⟨r, h1, hr, hk⟩ := eqCk_one h0
    refine ⟨r, h1, fun ρ cx cy rx ry => .inl ?_⟩
    have e1 := hk (by omega) ρ cx rx
    have e2 := hr ρ cx cy rx ry
    cases cx <;> simp [kindV] at e1
    cases cy <;> simp [scEq] at e2
    exact ⟨_, _, rfl, rfl, ht, by rw [beq_toListBytes]; exact e2⟩
  · cases ts with
    | nil => exact absurd rfl hne
    | cons t ts =>
      have h0 : (onAgg x fun a => onAgg y fun b => eqLk (t :: ts) a b k) = 1 := h
      obtain ⟨a, rfl, h1⟩ := onAgg_one h0
      obtain ⟨b, rfl, h2⟩ := onAgg_one h1
      obtain ⟨r, h3, hr⟩ := eqLk_one hf.lt h2
      refine ⟨r, h3, fun ρ cx cy rx ry => .inr ?_⟩
      obtain ⟨xs, rfl, hx, _⟩ := rx.agg_inv
      obtain ⟨ys, rfl, hy, _⟩ := ry.agg_inv
      have e : P.fieldsOf kt = fs := by unfold Program.fieldsOf; rw [ht]
      refine ⟨xs, ys, fs, _, rfl, rfl, ht, hf, hr ρ _ _ hx hy, fun w => ?_⟩
      unfold Op.equal Op.maxDepth
      rw [run_equalIn_struct w 9999 kt xs ys (by rw [e]; exact ht) hp, e]
      exact run_flatEq 9998 xs ys w fs.toList _ 0 r hf (by simpa using hr ρ _ _ hx hy)

theorem bytes_beq (a b : ByteArray) : (a == b) = true ↔ a = b := by
  obtain ⟨x⟩ := a
  obtain ⟨y⟩ := b
  constructor
  · intro h
    have e : x = y := by simpa using (show (x == y) = true from h)
    rw [e]
  · intro h
    cases h
    show (x == x) = true
    simp
theorem sameBits_sc {x y : Value} {t : Nat} (hk : kindV x = some t) (h : scEq x y = some true) (n : Nat) : Instr.sameBits n y x = true := by
  cases x <;> simp [kindV] at hk <;> cases y <;> simp [scEq] at h
  · subst h; cases n <;> simp [Instr.sameBits]
  · obtain ⟨rfl, rfl⟩ := h; cases n <;> simp [Instr.sameBits]
  · have : (_ == _) = true := (beq_toListBytes _ _).trans (beq_iff_eq.mpr h.symm)
    cases n <;> simp only [Instr.sameBits] <;> exact this
theorem sameBits_scL (n : Nat) {ts : List Nat} : ∀ {xs ys : List Value}, ScL ts xs ys true → ys.length = xs.length ∧ (ys.zip xs).all (fun p => Instr.sameBits n p.1 p.2) = true := by
  induction ts with
  | nil => intro xs ys h; cases xs <;> cases ys <;> simp_all [ScL]
  | cons t ts ih =>
    intro xs ys h
    cases xs with
    | nil => cases ys <;> simp [ScL] at h
    | cons x xs =>
      cases ys with
      | nil => simp [ScL] at h
      | cons y ys =>
        obtain ⟨hk, b, hb, h_1⟩ := h
        cases b with
        | false => simp at h_1
        | true =>
          simp at h_1
          obtain ⟨e1, e2⟩ := ih h_1
          simp [e1, sameBits_sc hk hb n]
          simpa using e2
theorem KeyR.stays {kt : TypeId} {a b : Value} (h : KeyR P kt a b true) (w : World) : (Instr.keyThatStays b a).run P w = .ok a w := by
  have : Instr.sameBits 10000 b a = true := by
    rcases h with ⟨s, t, rfl, rfl, _, h_1⟩ | ⟨xs, ys, fs, ts, rfl, rfl, _, _, h_1, _⟩
    · simp only [Instr.sameBits]
      rw [bytes_beq] at h_1; subst h_1
      exact (bytes_beq _ _).mpr rfl
    · obtain ⟨e1, e2⟩ := sameBits_scL 9999 h_1
      rw [show (10000 : Nat) = 9999 + 1 from rfl, Instr.sameBits]
      simp only [Bool.and_eq_true, beq_iff_eq]
      exact ⟨by simpa using e1, by simpa using e2⟩
  simp [Instr.keyThatStays, this]

theorem run_checkFlat (em : Bool) (n : Nat) (cs : Array Value) (w : World) : ∀ (fs : List Field) (ts : List Nat) (j : Nat) (vs ys : List Value) (r : Bool), FlatS P fs ts j → vs = cs.toList.drop j → ts.length ≤ vs.length →
    (forIn fs PUnit.unit fun (f : Field) (_ : PUnit) => (if f.name ≠ "_" then (do
      let x ← part f.type cs f.offset
      Instr.checkKey em (n + 1) f.type x
      pure (ForInStep.yield PUnit.unit)) else pure (ForInStep.yield PUnit.unit) : Sem (ForInStep PUnit))).run P w = .ok PUnit.unit w := by
  intro fs
  induction fs with
  | nil => intros; simp
  | cons f fs ih =>
    intro ts j vs ys r hf hv hl
    cases ts with
    | nil => simp [FlatS] at hf
    | cons t ts =>
      obtain ⟨hn, ho, ⟨d, hd, hs⟩, hf⟩ := hf
      cases vs with
      | nil => simp at hl
      | cons x xr =>
        have gx : cs[j]? = some x := by
          have := List.getElem?_drop (xs := cs.toList) (i := j) (j := 0)
          rw [← hv] at this; simpa using this.symm
        have dx : xr = cs.toList.drop (j + 1) := by rw [← List.drop_drop, ← hv]; rfl
        have pt : (part f.type cs f.offset).run P w = .ok x w := by
          simp only [part, isAgg, Sem.run_bind, run_und hd, Result.andThen_ok, ho]
          cases d <;> simp [kindOf] at hs <;> simp [gx]
        have ck : (Instr.checkKey em (n + 1) f.type x).run P w = .ok () w := by
          unfold Instr.checkKey
          simp only [Sem.run_bind, run_und hd, Result.andThen_ok]
          cases d <;> simp [kindOf] at hs <;> cases x <;> simp
        simp only [List.forIn_cons, if_pos hn, Sem.run_bind, pt, ck, Result.andThen_ok, Sem.run_pure]
        exact ih ts (j + 1) xr ys r hf dx (by simpa using hl)
theorem run_checkKeyT {em : Bool} {kt : TypeId} {ts : List Nat} (hk : KeyT P kt ts) (w : World) {ck : Value} (hs : (ts = [] → True) ∧ (ts ≠ [] → ∃ cs : Array Value, ck = .agg cs ∧ cs.size = ts.length)) :
    (Instr.checkKey em 10000 kt ck).run P w = .ok () w := by
  rcases hk with ⟨rfl, ht⟩ | ⟨fs, ht, hf, hne, hp⟩
  · rw [show (10000 : Nat) = 9999 + 1 from rfl]
    unfold Instr.checkKey
    simp only [Sem.run_bind, run_und ht, Result.andThen_ok]
    cases ck <;> simp
  · obtain ⟨cs, rfl, hl⟩ := hs.2 hne
    rw [show (10000 : Nat) = 9999 + 1 from rfl]
    unfold Instr.checkKey
    simp only [Sem.run_bind, run_und ht, Result.andThen_ok]
    rw [← Array.forIn_toList]
    have := run_checkFlat em 9998 cs w fs.toList ts 0 cs.toList [] true hf (by simp) (by simp [hl])
    simp only [this, Result.andThen_ok, Sem.run_pure]

/-- Entries. -/
def EntsRel (ρ : Ren) (es : List MEnt) (ces : List MapEntry) : Prop := es.length = ces.length ∧ ∀ (i : Nat) (e : MEnt) (c : MapEntry), es[i]? = some e → ces[i]? = some c → entRel ρ e c
theorem EntsRel.nil_inv {ρ : Ren} {l : List MapEntry} (h : EntsRel ρ [] l) : l = [] := by have := h.1; cases l <;> simp_all
theorem EntsRel.uncons {ρ : Ren} {e : MEnt} {es : List MEnt} {l : List MapEntry} (h : EntsRel ρ (e :: es) l) : ∃ c cs, l = c :: cs ∧ entRel ρ e c ∧ EntsRel ρ es cs := by
  cases l with
  | nil => have := h.1; simp at this
  | cons c cs => exact ⟨c, cs, rfl, h.2 0 _ _ rfl rfl, by have := h.1; simpa using this, fun i x y hx hy => h.2 (i + 1) x y (by simpa using hx) (by simpa using hy)⟩
theorem EntsRel.cons {ρ : Ren} {e : MEnt} {es : List MEnt} {c : MapEntry} {cs : List MapEntry} (h : entRel ρ e c) (hs : EntsRel ρ es cs) : EntsRel ρ (e :: es) (c :: cs) := by
  refine ⟨by simp [hs.1], fun i x y hx hy => ?_⟩
  cases i with
  | zero => simp at hx hy; subst hx; subst hy; exact h
  | succ i => simp at hx hy; exact hs.2 i x y hx hy
theorem EntsRel.nil {ρ : Ren} : EntsRel ρ [] [] := ⟨rfl, fun i x y h => by simp at h⟩
theorem EntsRel.append {ρ : Ren} {a b : List MEnt} {ca cb : List MapEntry} (h : EntsRel ρ a ca) (k : EntsRel ρ b cb) : EntsRel ρ (a ++ b) (ca ++ cb) := by
  refine ⟨by simp [h.1, k.1], fun i x y hx hy => ?_⟩
  by_cases hi : i < a.length
  · rw [List.getElem?_append_left hi] at hx
    rw [List.getElem?_append_left (by rw [← h.1]; exact hi)] at hy
    exact h.2 i x y hx hy
  · rw [List.getElem?_append_right (by omega)] at hx
    rw [List.getElem?_append_right (by rw [← h.1]; omega), ← h.1] at hy
    exact k.2 _ x y hx hy

/-- The result of a search: at which place. -/
def FindAt (P : Program) (kt : TypeId) (ck : Value) : List MapEntry → Nat → Prop
  | [], _ => False
  | c :: _, 0 => KeyR P kt ck c.key true
  | c :: cs, i + 1 => KeyR P kt ck c.key false ∧ FindAt P kt ck cs i
def FindR (P : Program) (kt : TypeId) (ck : Value) (oi : Option Nat) (ces : List MapEntry) : Prop :=
  match oi with
  | none => ∀ c ∈ ces, KeyR P kt ck c.key false
  | some i => FindAt P kt ck ces i

theorem KeyR.now {kt : TypeId} {a b : Value} {r : Bool} (h : KeyR P kt a b r) : (P.underlying kt = some .string ∧ Instr.sameNow .string a b = some r) ∨ ∃ fs, P.underlying kt = some (.struct fs) ∧ (Instr.sameNow (.struct fs) a b = none) ∧ ∀ w, (Op.equal kt a b).run P w = .ok r w := by
  rcases h with ⟨s, t, rfl, rfl, hu, h_1⟩ | ⟨xs, ys, fs, ts, rfl, rfl, hu, _, h_1, hw⟩
  · exact .inl ⟨hu, by simp [Instr.sameNow, h_1]⟩
  · exact .inr ⟨fs, hu, rfl, hw⟩

theorem run_find {kt : TypeId} {ts : List Nat} (hk : KeyT P kt ts) {ck : Value} (w : World) : ∀ {ces : List MapEntry} {oi : Option Nat}, FindR P kt ck oi ces →
    (Instr.findKey kt ck ces).run P w = .ok (oi.bind fun i => (ces[i]?).map fun c => (i, c.val)) w := by
  rcases hk with ⟨_, ht⟩ | ⟨fs, ht, _, _, _⟩
  · have now : ∀ (ces : List MapEntry) (oi : Option Nat) (j : Nat), FindR P kt ck oi ces → Instr.findNow .string ck ces j = some (oi.bind fun i => (ces[i]?).map fun c => (i + j, c.val)) := by
      intro ces
      induction ces with
      | nil => intro oi j h; cases oi <;> simp_all [FindR, FindAt, Instr.findNow]
      | cons c cs ih =>
        intro oi j h
        rcases oi with _ | _ | i
        · have h0 := h c List.mem_cons_self
          rcases h0.now with ⟨_, h0⟩ | ⟨fs, hu, _⟩
          · simp [Instr.findNow, h0, ih none (j + 1) (fun x hx => h x (List.mem_cons_of_mem _ hx))]
          · rw [ht] at hu; cases hu
        · rcases KeyR.now h with ⟨_, h0⟩ | ⟨fs, hu, _⟩
          · simp [Instr.findNow, h0]
          · rw [ht] at hu; cases hu
        · obtain ⟨h0, h_1⟩ := h
          rcases KeyR.now h0 with ⟨_, h0⟩ | ⟨fs, hu, _⟩
          · simp [Instr.findNow, h0, ih (some i) (j + 1) h_1]
            cases cs[i]? <;> simp; omega
          · rw [ht] at hu; cases hu
    intro ces oi h
    simp [Instr.findKey, Sem.run_bind, run_und ht, now ces oi 0 h]
  · have ask : ∀ (ces : List MapEntry) (oi : Option Nat) (j : Nat), FindR P kt ck oi ces → (Instr.findAsking kt ck ces j).run P w = .ok (oi.bind fun i => (ces[i]?).map fun c => (i + j, c.val)) w := by
      intro ces
      induction ces with
      | nil => intro oi j h; cases oi <;> simp_all [FindR, FindAt, Instr.findAsking]
      | cons c cs ih =>
        intro oi j h
        rcases oi with _ | _ | i
        · have h0 := h c List.mem_cons_self
          rcases h0.now with ⟨hu, _⟩ | ⟨_, _, _, h0⟩
          · rw [ht] at hu; cases hu
          · simp [Instr.findAsking, Sem.run_bind, h0 w, ih none (j + 1) (fun x hx => h x (List.mem_cons_of_mem _ hx))]
        · rcases KeyR.now h with ⟨hu, _⟩ | ⟨_, _, _, h0⟩
          · rw [ht] at hu; cases hu
          · simp [Instr.findAsking, Sem.run_bind, h0 w]
        · obtain ⟨h0, h_2⟩ := h
          rcases KeyR.now h0 with ⟨hu, _⟩ | ⟨_, _, _, h0⟩
          · rw [ht] at hu; cases hu
          · simp [Instr.findAsking, Sem.run_bind, h0 w, ih (some i) (j + 1) h_2]
            cases cs[i]? <;> simp; omega
    intro ces oi h
    cases ces with
    | nil => cases oi <;> simp_all [FindR, FindAt, Instr.findKey, Sem.run_bind, run_und ht, Instr.findNow]
    | cons c cs =>
      have hn : Instr.findNow (.struct fs) ck (c :: cs) 0 = none := by
        have : ∃ r, KeyR P kt ck c.key r := by
          rcases oi with _ | _ | i
          · exact ⟨_, h c List.mem_cons_self⟩
          · exact ⟨_, h⟩
          · exact ⟨_, h.1⟩
        obtain ⟨r, hr⟩ := this
        rcases hr.now with ⟨hu, _⟩ | ⟨fs', hu, hs, _⟩
        · rw [ht] at hu; cases hu
        · rw [ht] at hu; injection hu with hu; injection hu with hu; subst hu
          simp [Instr.findNow, hs]
      simp only [Instr.findKey, Sem.run_bind, run_und ht, Result.andThen_ok, hn]
      exact ask (c :: cs) oi 0 h

theorem find_one {ts : List Nat} {kt : TypeId} (hk : KeyT P kt ts) {key : AVal} {es : List MEnt} : ∀ {no : Nat} {yes : AVal → Nat → Nat}, find ts key es no yes = 1 →
    ∃ oi : Option Nat, (match oi with | none => no = 1 | some i => ∃ e, es[i]? = some e ∧ yes e.val e.born = 1) ∧ ∀ ρ ck ces, VRel ρ key ck → EntsRel ρ es ces → FindR P kt ck oi ces := by
  induction es with
  | nil => intro no yes h; exact ⟨none, h, fun ρ ck ces _ hr => by rw [hr.nil_inv]; intro c hc; cases hc⟩
  | cons x es ih =>
    intro no yes h
    obtain ⟨ky, v, n⟩ := x
    have h0 : keq ts key ky (fun r => ifB r (yes v n) (find ts key es no yes)) = 1 := h
    obtain ⟨r, h1, hr⟩ := keq_one h0 hk
    rcases ifB_one h1 with ⟨rfl, h2⟩ | ⟨rfl, h2⟩
    · refine ⟨some 0, ⟨⟨ky, v, n⟩, rfl, h2⟩, fun ρ ck ces hc he => ?_⟩
      obtain ⟨c, cs, rfl, e, _⟩ := he.uncons
      exact hr ρ ck c.key hc e.1
    · obtain ⟨oi, h3, h4⟩ := ih h2
      refine ⟨oi.map (· + 1), ?_, fun ρ ck ces hc he => ?_⟩
      · cases oi with
        | none => exact h3
        | some i => obtain ⟨e, h5, h6⟩ := h3; exact ⟨e, by simpa using h5, h6⟩
      · obtain ⟨c, cs, rfl, e, he⟩ := he.uncons
        have h0 := hr ρ ck c.key hc e.1
        have h5 := h4 ρ ck cs hc he
        cases oi with
        | none =>
          intro x hx
          rcases List.mem_cons.mp hx with rfl | hx
          · exact h0
          · exact h5 x hx
        | some i => exact ⟨h0, h5⟩

end Go.Proofs.YtmgigdklcaepdaaGreatDoor.Ax
end

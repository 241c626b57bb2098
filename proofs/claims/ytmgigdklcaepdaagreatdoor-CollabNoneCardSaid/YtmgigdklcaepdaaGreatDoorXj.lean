/-
  Append, copy: what is read, how the model grows. · Append of cells. · Append to a slice of cells.
-/
import Derived.Test.YtmgigdklcaepdaaGreatDoorXi
set_option linter.unusedVariables false
set_option linter.unusedSimpArgs false
section
namespace Go.Proofs.YtmgigdklcaepdaaGreatDoor.Ax
set_option linter.unusedVariables false
set_option linter.unusedSimpArgs false

variable {P : Program}

/-- What an operand of append or copy holds: n elements; their cells. -/
def SrcR (P : Program) (w : World) (esz : Nat) (cy : Value) (n : Nat) (ccs : List Value) : Prop :=
  Builtin.lenOf cy = pure n ∧ ccs.length = n * esz ∧ ∀ m, m ≤ n → ∀ w' : World, w'.heap = w.heap → (Builtin.firstCells esz m cy).run P w' = .ok (ccs.take (m * esz)).toArray w'

theorem rowAt_heap {w w' : World} {c : Nat} {arr : Array Value} {fz : Nat → Bool} (h : rowAt w c arr fz) (e : w'.heap = w.heap) : rowAt w' c arr fz := by
  obtain ⟨ty, lo, hi, hb, hf⟩ := h
  exact ⟨ty, lo, hi, by rw [e]; exact hb, hf⟩

/-- The bytes as cells. -/
def bcells (n code : Nat) : List Value := (bytesOf n code).map fun b => Value.int .u8 (.ofNat b.toNat)
theorem bcells_length (n code : Nat) : (bcells n code).length = n := by simp [bcells, bytesOf_length]
theorem bcells_one (n code : Nat) : One (bcells n code) := by
  intro y hy
  obtain ⟨b, _, rfl⟩ := List.mem_map.mp hy
  rfl

theorem srcCells_one {esz : Nat} {y : AVal} {H : Heap} {k : Nat → List AVal → Nat} {kb : Nat → Nat → Nat} (h : srcCells esz y H k kb = 1) :
    (∃ n cs, k n cs = 1 ∧ ∀ gl w ρ cy, HR gl H.f ρ w → VRel ρ y cy → ∃ ccs, SrcR P w esz cy n ccs ∧ LRel ρ cs ccs ∧ One ccs) ∨
    (∃ n new, kb n new = 1 ∧ ∀ gl w ρ cy, HR gl H.f ρ w → VRel ρ y cy → new < 256 ^ n ∧ (esz = 1 ∨ n = 0 → SrcR P w esz cy n (bcells n new))) := by
  cases y with
  | str n c =>
    refine .inr ⟨n, c, h, fun gl w ρ cy hr ry => ?_⟩
    obtain ⟨rfl, hlt⟩ := str_inv ry
    refine ⟨hlt, fun he => ?_⟩
    have hmul : ∀ m, m ≤ n → m * esz = m := by
      intro m hm
      rcases he with rfl | rfl
      · omega
      · have : m = 0 := by omega
        subst this; simp
    refine ⟨by simp [Builtin.lenOf, txt_size], by rw [bcells_length, hmul n (Nat.le_refl _)], fun m hm w' _ => ?_⟩
    simp only [Builtin.firstCells, Sem.run_pure]
    congr 1
    apply Array.ext'
    unfold bcells
    rw [hmul m hm, ← List.map_take]
    have e : ((txt n c).extract 0 m).data.toList = (bytesOf n c).take m := by simp [txt, List.extract_eq_take_drop]
    rw [Array.toList_map, e]
    rfl
  | sl b o n sz cap =>
    have h0 : ifB (Nat.beq n 0) (k 0 []) (H.get b fun ob => onCells ob (fun es cnt _ t => readCells es cnt t o (Nat.mul n esz) fun cs => k n cs) fun m code _ => ifB (Nat.ble (Nat.add o n) m) (force (cutN code o n) fun c => kb n c) 426) = 1 := h
    rcases ifB_one h0 with ⟨e, h1⟩ | ⟨e, h1⟩
    · have e := Nat.eq_of_beq_eq_true e
      subst e
      refine .inl ⟨0, [], h1, fun gl w ρ cy hr ry => ⟨[], ?_, .nil, fun y hy => by cases hy⟩⟩
      have : ∃ a cc, cy = .slice (some a) 0 cc := by cases ry <;> exact ⟨_, _, rfl⟩
      obtain ⟨a, cc, rfl⟩ := this
      refine ⟨rfl, by simp, fun m hm w' _ => ?_⟩
      have : m = 0 := by omega
      subst this
      simp [Builtin.firstCells, loadCells, loadCellsFrom]
    · have hpos : 0 < n := by
        rcases Nat.eq_zero_or_pos n with q | q
        · subst q; cases e
        · exact q
      obtain ⟨ob, hob, h2⟩ := Heap.get_one h1
      rcases onCells_one h2 with ⟨es, cnt, wr, t, rfl, h3⟩ | ⟨m, cd, wr, rfl, h3⟩
      · obtain ⟨cs, h4, hcs⟩ := readCells_one h3
        refine .inl ⟨n, cs, h4, fun gl w ρ cy hr ry => ?_⟩
        cases ry with
        | slE _ _ _ => omega
        | @sl _ _ _ _ _ cc L hb hc hl hp ht =>
          obtain ⟨arr, fz, hrow, hs, hn, he, _⟩ := (hr.obj b _ _ hb hob).elems
          obtain ⟨hln, hca⟩ := hcs ρ arr _ he
          obtain ⟨r1, r2, r3⟩ := hca.list
          have hln : cs.length = n * esz := hln
          have hle : L.d + o + cs.length ≤ arr.size ∨ cs.length = 0 := by omega
          refine ⟨_, ⟨rfl, by rw [← r1.1]; exact hln, fun m hm w' hw' => ?_⟩, r1, r2⟩
          have hmm : m * esz ≤ n * esz := Nat.mul_le_mul_right esz hm
          simp only [Builtin.firstCells]
          rcases hle with hle | hle
          · rw [run_loadRow (rowAt_heap hrow hw') (m * esz) (by omega), List.take_take, Nat.min_eq_left (by omega)]
          · have : m * esz = 0 := by omega
            rw [this]
            simp [loadCells, loadCellsFrom]
      · obtain ⟨h4, h5⟩ := ifB_true h3 (by decide)
        have h4 : o + n ≤ m := Nat.le_of_ble_eq_true h4
        rw [force_eq] at h5
        refine .inr ⟨n, _, h5, fun gl w ρ cy hr ry => ⟨cutN_lt _ _ _, fun he => ?_⟩⟩
        have he : esz = 1 := he.resolve_right (by omega)
        subst he
        cases ry with
        | slE _ _ _ => omega
        | @sl _ _ _ _ _ cc L hb hc hl hp ht =>
          obtain ⟨arr, fz, hrow, hs, hn, hlt, hbs, _⟩ := hr.obj b _ _ hb hob
          refine ⟨rfl, by rw [bcells_length, Nat.mul_one], fun q hq w' hw' => ?_⟩
          simp only [Builtin.firstCells]
          have := run_loadBytes (P := P) (n := q) (p := L.d + o) (rowAt_heap hrow hw') (l := (bytesOf n (cutN cd o n)).take q) (by rw [List.length_take, bytesOf_length]; omega) (fun i b' hb' => by
            rw [List.getElem?_take] at hb'
            split at hb'
            · rw [Nat.add_assoc]; exact hbs _ _ (bytes_cut h4 i b' hb')
            · cases hb')
          rw [Nat.mul_one, this]
          unfold bcells
          rw [List.map_take]
  | z x => cases x with
    | cst tg =>
      have h0 : ifB (Nat.beq tg 1) (k 0 []) 427 = 1 := h
      obtain ⟨e, h1⟩ := ifB_true h0 (by decide)
      have e := Nat.eq_of_beq_eq_true e
      subst e
      refine .inl ⟨0, [], h1, fun gl w ρ cy hr ry => ⟨[], ?_, .nil, fun y hy => by cases hy⟩⟩
      cases ry
      refine ⟨rfl, by simp, fun m hm w' _ => ?_⟩
      simp [Builtin.firstCells]
    | _ => cases h
  | _ => cases h

theorem growBy_le (need : Nat) : ∀ (r c : Nat), Builtin.growBy need r c ≤ (c + 768) * 2 ^ r := by
  intro r
  induction r with
  | zero => intro c; simp [Builtin.growBy]
  | succ r ih =>
    intro c
    unfold Builtin.growBy
    have hp : 0 < 2 ^ r := Nat.pow_pos (by decide)
    split
    · rw [Nat.pow_succ]
      have : c + 768 ≤ (c + 768) * (2 ^ r * 2) := Nat.le_mul_of_pos_right _ (by omega)
      omega
    · refine Nat.le_trans (ih _) ?_
      rw [Nat.pow_succ, ← Nat.mul_assoc, Nat.mul_comm _ 2, ← Nat.mul_assoc]
      exact Nat.mul_le_mul_right _ (by omega)
theorem nextcap_le {need old : Nat} (h : old < need) (hm : need ≤ 1000000) : Builtin.nextslicecap need old ≤ 20000000 := by
  unfold Builtin.nextslicecap
  split
  · omega
  · split
    · omega
    · refine Nat.le_trans (growBy_le need 4 old) ?_
      have : (old + 768) * 2 ^ 4 ≤ 1000768 * 2 ^ 4 := Nat.mul_le_mul_right _ (by omega)
      exact Nat.le_trans this (by decide)

/-- The model's growing append. -/
theorem run_grow {t u e ty : TypeId} {du : TypeDesc} {i : TypeInfo} {z : Value} (ht : P.underlying t = some (.slice e)) (hu : P.underlying u = some du) (hdu : du = .string ∨ ∃ e', du = .slice e') (hi : P.info? e = some i) (hz : i.zero = some z)
    (hby : i.bytes ≤ 4096) {w : World} {base : Option Addr} {sLen sCap n : Nat} {cy : Value} {old new : List Value} (hs : SrcR P w i.size (.slice base sLen sCap) sLen old) (hy : SrcR P w i.size cy n new) (hneed : sCap < sLen + n) (hmax : sLen + n ≤ 1000000) :
    ∃ newCap w', sLen + n ≤ newCap ∧ (Builtin.append_ #[t, u] ty #[.slice base sLen sCap, cy]).run P w = .ok (.slice (some ⟨w.heap.size, 0, none⟩) (sLen + n) newCap) w' ∧
      Push (.cells (old.toArray ++ new.toArray ++ Builtin.zeroCells z.cells (newCap - (sLen + n))) e) w w' := by
  have hc : (choose (.appendCap (sLen + n) sCap e)).run P w = .ok ((sLen + n) + (w.tape w.drawn (.appendCap (sLen + n) sCap e)) % (2 ^ 63 - (sLen + n))) { w with drawn := w.drawn + 1 } := by
    simp only [run_choose, Question.forced]; rfl
  refine ⟨_, { w with drawn := w.drawn + 1, heap := w.heap.push (.cells (old.toArray ++ new.toArray ++ Builtin.zeroCells z.cells (((sLen + n) + (w.tape w.drawn (.appendCap (sLen + n) sCap e)) % (2 ^ 63 - (sLen + n))) - (sLen + n))) e) }, Nat.le_add_right _ _, ?_, ⟨rfl, rfl, rfl, rfl⟩⟩
  have hnc := nextcap_le hneed hmax
  have hmul : Builtin.nextslicecap (sLen + n) sCap * i.bytes ≤ 20000000 * 4096 := Nat.mul_le_mul hnc hby
  have e1 : ¬ (Builtin.nextslicecap (sLen + n) sCap * i.bytes > 2 ^ 48) := by omega
  have e2 : ¬ (((sLen + n : Nat) : Int) > IntKind.i64.max ∧ ((false = true) ∨ i.bytes = 0)) := by
    intro ⟨q, _⟩
    have : IntKind.i64.max = 9223372036854775807 := by decide
    rw [this] at q; omega
  have e3 : ¬ (sLen + n ≤ sCap) := by omega
  have o1 := hs.2.2 sLen (Nat.le_refl _) { w with drawn := w.drawn + 1 } rfl
  have n1 := hy.2.2 n (Nat.le_refl _) { w with drawn := w.drawn + 1 } rfl
  rw [List.take_of_length_le (by rw [hs.2.1]; exact Nat.le_refl _)] at o1
  rw [List.take_of_length_le (by rw [hy.2.1]; exact Nat.le_refl _)] at n1
  have e2' : ¬ (((sLen + n : Nat) : Int) > IntKind.i64.max ∧ (i.bytes = 0)) := fun ⟨q, r⟩ => e2 ⟨q, .inr r⟩
  unfold Builtin.append_
  rcases hdu with rfl | ⟨e', rfl⟩
  all_goals simp only [List.getElem?_toArray, List.getElem?_cons_zero, List.getElem?_cons_succ, Sem.run_bind, run_und ht, run_und hu, run_size hi, run_info hi, Result.andThen_ok, Sem.run_pure, Bool.false_eq_true, if_false, hy.1, Sem.run_ite, e1, e2, e2', e3, false_or, hc, run_askRoom, o1, n1,
    run_zero hi hz, Bool.not_false, if_true, Go.newRow, run_newObj]
  all_goals rfl

end Go.Proofs.YtmgigdklcaepdaaGreatDoor.Ax
end
section
namespace Go.Proofs.YtmgigdklcaepdaaGreatDoor.Ax
set_option linter.unusedVariables false
set_option linter.unusedSimpArgs false

variable {P : Program}

theorem run_inplace {t u e ty : TypeId} {du : TypeDesc} {i : TypeInfo} (ht : P.underlying t = some (.slice e)) (hu : P.underlying u = some du) (hdu : du = .string ∨ ∃ e', du = .slice e') (hi : P.info? e = some i)
    {w : World} {a : Addr} {sLen sCap n : Nat} {cy : Value} {new : List Value} (hy : SrcR P w i.size cy n new) (hneed : sLen + n ≤ sCap) :
    (Builtin.append_ #[t, u] ty #[.slice (some a) sLen sCap, cy]).run P w = ((storeCells (a.add (sLen * i.size)) new).run P w).andThen fun _ w' => .ok (.slice (some a) (sLen + n) sCap) w' := by
  have n1 := hy.2.2 n (Nat.le_refl _) w rfl
  rw [List.take_of_length_le (by rw [hy.2.1]; exact Nat.le_refl _)] at n1
  unfold Builtin.append_
  rcases hdu with rfl | ⟨e', rfl⟩
  all_goals simp only [List.getElem?_toArray, List.getElem?_cons_zero, List.getElem?_cons_succ, Sem.run_bind, run_und ht, run_und hu, run_size hi, run_info hi, Result.andThen_ok, Sem.run_pure, Bool.false_eq_true, if_false, hy.1, Sem.run_ite, hneed, if_true, n1, Bool.not_false]
theorem run_none {t u e ty : TypeId} {du : TypeDesc} {i : TypeInfo} (ht : P.underlying t = some (.slice e)) (hu : P.underlying u = some du) (hdu : du = .string ∨ ∃ e', du = .slice e') (hi : P.info? e = some i)
    {w : World} {cy : Value} {new : List Value} (hy : SrcR P w i.size cy 0 new) : (Builtin.append_ #[t, u] ty #[.slice none 0 0, cy]).run P w = .ok (.slice none 0 0) w := by
  have n1 := hy.2.2 0 (Nat.le_refl _) w rfl
  unfold Builtin.append_
  rcases hdu with rfl | ⟨e', rfl⟩
  all_goals simp only [List.getElem?_toArray, List.getElem?_cons_zero, List.getElem?_cons_succ, Sem.run_bind, run_und ht, run_und hu, run_size hi, run_info hi, Result.andThen_ok, Sem.run_pure, Bool.false_eq_true, if_false, hy.1, Sem.run_ite, Nat.le_refl, if_true, n1, Bool.not_false, Nat.add_zero]

theorem Grow.weaken {f f1 f' : Nat → Option AObj} {ρ ρ' : Ren} {w w' : World} {n n' : Nat} (g : Grow f1 ρ w n f' ρ' w' n') (hl : ∀ m, live f1 m → live f m) : Grow f ρ w n f' ρ' w' n' :=
  ⟨g.le, g.nx, fun b L h h0 => let ⟨a, c, d⟩ := g.new b L h h0; ⟨a, c, d.imp id fun ⟨b', L', x, y, z⟩ => ⟨b', L', x, hl _ y, z⟩⟩, fun b L h l => hl _ (g.keep b L h l),
    fun c hc hn => g.same c hc fun b L h l => hn b L h (hl _ l), g.size, g.tape, g.os, g.out⟩

/-- Of a block nothing is known any more; a new one lies in the same place. -/
theorem HR.alias {gl : Fixed} {f f' : Nat → Option AObj} {ρ : Ren} {w w' : World} {b b' d tot : Nat} {L : Loc} {o' : AObj} (hr : HR gl f ρ w) (hb : ρ b = some L) (lv : live f b) (hb' : ρ b' = none) (hw : Only L.c w w')
    (hf : ∀ m, f' m = if m = b' then some o' else if m = b then some .dead else f m) (hO : ObjRel (ρ.set b' ⟨L.c, d, tot⟩) w' ⟨L.c, d, tot⟩ o') : HR gl f' (ρ.set b' ⟨L.c, d, tot⟩) w' ∧ Grow f ρ w b' f' (ρ.set b' ⟨L.c, d, tot⟩) w' (b' + 1) := by
  have hle := Ren.le_set ⟨L.c, d, tot⟩ hb'
  have ren : ∀ m M, (ρ.set b' ⟨L.c, d, tot⟩) m = some M → (m = b' ∧ M = ⟨L.c, d, tot⟩) ∨ (m ≠ b' ∧ ρ m = some M) := by
    intro m M h
    unfold Ren.set at h
    split at h
    · rename_i e; injection h with h; exact .inl ⟨e, h.symm⟩
    · rename_i e; exact .inr ⟨e, h⟩
  have back : ∀ m, m ≠ b' → live f' m → m ≠ b ∧ live f m := by
    intro m hne ⟨x, hx, hxd⟩
    rw [hf, if_neg hne] at hx
    split at hx
    · injection hx with e; exact absurd e.symm hxd
    · rename_i e; exact ⟨e, x, hx, hxd⟩
  refine ⟨⟨fun m M x hm hx => ?_, fun b1 b2 L1 L2 hne h1 h2 l1 l2 => ?_, fun m M hm => ?_, fun g x hg => ⟨?_, fun m M hm l => ?_⟩⟩,
    ⟨hle, Nat.le_succ _, fun m M h h' => ?_, fun m M hm l => ?_, fun c hc hn => hw.other c (fun e => hn b L hb lv e.symm), by rw [hw.size]; exact Nat.le_refl _, hw.tape, hw.os, hw.out⟩⟩
  · rcases ren m M hm with ⟨rfl, rfl⟩ | ⟨hne, h0⟩
    · rw [hf, if_pos rfl] at hx
      injection hx with e; subst e
      exact hO
    · by_cases hxd : x = .dead
      · subst hxd; exact True.intro
      · obtain ⟨g1, g2⟩ := back m hne ⟨x, hx, hxd⟩
        rw [hf, if_neg hne, if_neg g1] at hx
        exact (hr.obj m M x h0 hx).stay hle (hw.other _ (hr.sep m b M L g1 h0 hb g2 lv))
  · rcases ren b1 L1 h1 with ⟨rfl, rfl⟩ | ⟨n1, h1'⟩ <;> rcases ren b2 L2 h2 with ⟨rfl, rfl⟩ | ⟨n2, h2'⟩
    · exact absurd rfl hne
    · obtain ⟨g1, g2⟩ := back b2 n2 l2
      exact fun e => hr.sep b2 b L2 L g1 h2' hb g2 lv e.symm
    · obtain ⟨g1, g2⟩ := back b1 n1 l1
      exact hr.sep b1 b L1 L g1 h1' hb g2 lv
    · exact hr.sep b1 b2 L1 L2 hne h1' h2' (back b1 n1 l1).2 (back b2 n2 l2).2
  · rw [hw.size]
    rcases ren m M hm with ⟨rfl, rfl⟩ | ⟨hne, h0⟩
    · exact hr.inn b L hb
    · exact hr.inn m M h0
  · rw [hw.other g (Ne.symm ((hr.fixd g x hg).2 b L hb lv))]; exact (hr.fixd g x hg).1
  · rcases ren m M hm with ⟨rfl, rfl⟩ | ⟨hne, h0⟩
    · exact (hr.fixd g x hg).2 b L hb lv
    · exact (hr.fixd g x hg).2 m M h0 (back m hne l).2
  · rcases ren m M h with ⟨rfl, rfl⟩ | ⟨hne, h0⟩
    · exact ⟨Nat.le_refl _, Nat.lt_succ_self _, .inr ⟨b, L, hb, lv, rfl⟩⟩
    · rw [h'] at h0; cases h0
  · have hne : m ≠ b' := by intro e; subst e; rw [hb'] at hm; cases hm
    exact (back m hne l).2

/-- The same with a new row. -/
theorem HR.lose {gl : Fixed} {f f' : Nat → Option AObj} {ρ : Ren} {w w' : World} {b b' tot : Nat} {ob : Obj} {o' : AObj} (hr : HR gl f ρ w) (hb' : ρ b' = none) (hw : Push ob w w')
    (hf : ∀ m, f' m = if m = b' then some o' else if m = b then some .dead else f m) (hO : ObjRel (ρ.set b' ⟨w.heap.size, 0, tot⟩) w' ⟨w.heap.size, 0, tot⟩ o') : HR gl f' (ρ.set b' ⟨w.heap.size, 0, tot⟩) w' ∧ Grow f ρ w b' f' (ρ.set b' ⟨w.heap.size, 0, tot⟩) w' (b' + 1) := by
  have hr1 : HR gl (fun m => if m = b then some .dead else f m) ρ w := hr.less fun m L o _ hx hd => by
    split at hx
    · injection hx with e; exact absurd e.symm hd
    · exact hx
  obtain ⟨q1, q2⟩ := hr1.new hb' hw hf hO
  refine ⟨q1, q2.weaken fun m ⟨x, hx, hd⟩ => ?_⟩
  dsimp only at hx
  split at hx
  · injection hx with e; exact absurd e.symm hd
  · exact ⟨x, hx, hd⟩

theorem elems_of_pieces {ρ : Ren} {arr : Array Value} {d esz m : Nat} {all : List AVal} {t t' : Trie (List AVal)} (h : CellsAt ρ arr d all) (hl : all.length = m * esz) (ht : ∀ j, t'.look j = if 0 ≤ j ∧ j < 0 + m then some ((all.drop ((j - 0) * esz)).take esz) else t.look j) :
    ElemsAt ρ arr d esz m t' := by
  intro j hj
  have g := mul_le_of_lt (e := esz) hj
  refine ⟨_, by rw [ht, if_pos ⟨Nat.zero_le _, by omega⟩], by rw [List.length_take, List.length_drop, Nat.sub_zero]; omega, ?_⟩
  rw [Nat.sub_zero]
  exact (h.drop _).take _

/-- What a grown slice's elements are: the old ones, then the new ones; wherever they lie. -/
def Grown (esz es cnt : Nat) (t : Trie (List AVal)) (o len need : Nat) (cs : List AVal) (t' : Trie (List AVal)) : Prop :=
  ∀ ρ arr d arr2 d2 n new, need = len + n → ElemsAt ρ arr d es cnt t → LRel ρ cs new → One new → new.length = n * esz → (∀ p, p < len * esz → arr2[d2 + p]? = arr[d + o + p]?) → (∀ (j : Nat) (v : Value), new[j]? = some v → arr2[d2 + len * esz + j]? = some v) →
    ElemsAt ρ arr2 d2 esz need t'

theorem CellsAt.move {ρ : Ren} {arr arr2 : Array Value} {p q n : Nat} {cs : List AVal} (h : CellsAt ρ arr p cs) (hl : cs.length ≤ n) (hm : ∀ j, j < n → arr2[q + j]? = arr[p + j]?) : CellsAt ρ arr2 q cs := by
  intro j v hv
  have hj : j < cs.length := by
    rcases Nat.lt_or_ge j cs.length with g | g
    · exact g
    · rw [List.getElem?_eq_none g] at hv; cases hv
  obtain ⟨cv, hc, r⟩ := h j v hv
  exact ⟨cv, by rw [hm j (by omega)]; exact hc, r⟩
theorem CellsAt.ofL {ρ : Ren} {arr : Array Value} {p : Nat} {cs : List AVal} {new : List Value} (h : LRel ρ cs new) (h1 : One new) (hm : ∀ (j : Nat) (v : Value), new[j]? = some v → arr[p + j]? = some v) : CellsAt ρ arr p cs := by
  intro j v hv
  obtain ⟨cv, hc, r⟩ := h.get hv
  exact ⟨cv, hm j cv hc, r, h1 cv (List.mem_of_getElem? hc)⟩

theorem oldCells_one {es cnt : Nat} {t : Trie (List AVal)} {o n : Nat} {k : List AVal → Nat} (h : oldCells es cnt t o n k = 1) : ∃ cs, k cs = 1 ∧ ∀ ρ arr d, ElemsAt ρ arr d es cnt t → cs.length = n ∧ CellsAt ρ arr (d + o) cs := by
  rcases ifB_one h with ⟨e, h1⟩ | ⟨_, h1⟩
  · have e := Nat.eq_of_beq_eq_true e
    subst e
    exact ⟨[], h1, fun ρ arr d _ => ⟨rfl, fun j v hv => by simp at hv⟩⟩
  · exact readCells_one h1

theorem grownA {esz es cnt : Nat} {t : Trie (List AVal)} {o len need : Nat} {cs : List AVal} {w : Bool} {H : Heap} {kv : K} (h : (oldCells es cnt t o (Nat.mul len esz) fun old => appL old cs fun all => grown esz need w all H kv) = 1) (hes : 0 < esz) :
    ∃ t' H', kv (.sl H.next 0 need esz (.ge need)) H' = 1 ∧ NewIn H (.cells esz need w t') H' ∧ Grown esz es cnt t o len need cs t' := by
  obtain ⟨old, h1, hold⟩ := oldCells_one h
  rw [appL_eq] at h1
  obtain ⟨t', m, h2, hl, hm0, hlook⟩ := putElems_one _ h1
  obtain ⟨H', h3, hn, hf⟩ := Heap.new_one h2
  refine ⟨t', H', h3, ⟨hn, hf⟩, fun ρ arr d arr2 d2 n new hneed he hl2 h1' hnl hm1 hm2 => ?_⟩
  obtain ⟨g1, g2⟩ := hold ρ arr d he
  have g1 : old.length = len * esz := g1
  have hall : CellsAt ρ arr2 d2 (old ++ cs) := (g2.move (n := len * esz) (by omega) hm1).app (by rw [g1]; exact CellsAt.ofL hl2 h1' hm2)
  have hlen : (old ++ cs).length = need * esz := by rw [List.length_append, g1, hl2.1, hnl, hneed, Nat.add_mul]
  have hmn : m = need := elems_list hl hlen hes
  subst hmn
  exact elems_of_pieces hall hlen hlook

theorem grownB {esz cnt : Nat} {t : Trie (List AVal)} {len need : Nat} {cs : List AVal} {w : Bool} {H : Heap} {kv : K} (h : grownOn esz t len need w cs H kv = 1) (hc : len = cnt) (hes : 0 < esz) :
    ∃ t' H', kv (.sl H.next 0 need esz (.ge need)) H' = 1 ∧ NewIn H (.cells esz need w t') H' ∧ Grown esz esz cnt t 0 len need cs t' := by
  obtain ⟨t', m, h2, hl, hm0, hlook⟩ := putElems_one _ h
  obtain ⟨H', h3, hn, hf⟩ := Heap.new_one h2
  refine ⟨t', H', h3, ⟨hn, hf⟩, fun ρ arr d arr2 d2 n new hneed he hl2 h1' hnl hm1 hm2 => ?_⟩
  have hmn : m = n := elems_list hl (by rw [hl2.1]; exact hnl) hes
  subst hmn
  subst hc
  intro j hj
  rw [hlook]
  by_cases hjl : len ≤ j ∧ j < len + m
  · rw [if_pos hjl]
    have hj2 : j - len < m := by omega
    have g := mul_le_of_lt (e := esz) hj2
    refine ⟨_, rfl, by rw [List.length_take, List.length_drop]; omega, ?_⟩
    have a := ((CellsAt.ofL hl2 h1' hm2).drop ((j - len) * esz)).take esz
    have e : d2 + len * esz + (j - len) * esz = d2 + j * esz := by
      rw [Nat.add_assoc, ← Nat.add_mul]; congr 2; omega
    rw [e] at a
    exact a
  · rw [if_neg hjl]
    have hj2 : j < len := by omega
    obtain ⟨c, g1, g2, g3⟩ := he j hj2
    have g := mul_le_of_lt (e := esz) hj2
    refine ⟨c, g1, g2, g3.move (n := esz) (by omega) fun p hp => ?_⟩
    have := hm1 (j * esz + p) (by omega)
    rw [Nat.add_zero, ← Nat.add_assoc, ← Nat.add_assoc] at this
    exact this

end Go.Proofs.YtmgigdklcaepdaaGreatDoor.Ax
end
section
namespace Go.Proofs.YtmgigdklcaepdaaGreatDoor.Ax
set_option linter.unusedVariables false
set_option linter.unusedSimpArgs false

variable {P : Program}

/-- What append does with a slice, whichever way the model takes. -/
def AppR (P : Program) (gl : Fixed) (esz b o len : Nat) (cap : ACap) (H : Heap) (need : Nat) (cs : List AVal) (v : AVal) (H' : Heap) : Prop :=
  ∀ w ρ cc L n new, HR gl H.f ρ w → Fresh ρ H.next H'.next → ρ b = some L → capOk cap cc → len ≤ cc → L.d + o + cc * esz ≤ L.tot → need = len + n → LRel ρ cs new → One new → new.length = n * esz →
    (need ≤ cc → ∃ w2 ρ', (storeCells ⟨L.c, L.d + o + len * esz, none⟩ new).run P w = .ok () w2 ∧ Grow H.f ρ w H.next H'.f ρ' w2 H'.next ∧ HR gl H'.f ρ' w2 ∧ VRel ρ' v (.slice (some ⟨L.c, L.d + o, none⟩) need cc)) ∧
    (cc < need → ∀ newCap w2 (rest : Array Value) (old : List Value) elem, need ≤ newCap → (∀ arr fz, rowAt w L.c arr fz → old = (arr.toList.drop (L.d + o)).take (len * esz)) → rest.size = (newCap - need) * esz →
      Push (.cells (old.toArray ++ new.toArray ++ rest) elem) w w2 → ∃ ρ', Grow H.f ρ w H.next H'.f ρ' w2 H'.next ∧ HR gl H'.f ρ' w2 ∧ VRel ρ' v (.slice (some ⟨w.heap.size, 0, none⟩) need newCap))

/-- Of a new row: the old elements lie in front, the new ones behind them. -/
theorem row_parts {old new : List Value} {rest arr : Array Value} {p k : Nat} (h : old = (arr.toList.drop p).take k) (hk : p + k ≤ arr.size) :
    (∀ j, j < k → (old.toArray ++ new.toArray ++ rest)[0 + j]? = arr[p + j]?) ∧ (∀ (j : Nat) (v : Value), new[j]? = some v → (old.toArray ++ new.toArray ++ rest)[0 + k + j]? = some v) := by
  have hl : old.length = k := by rw [h]; simp; omega
  constructor
  · intro j hj
    rw [Nat.zero_add, Array.append_assoc, Array.getElem?_append_left (by simp; omega)]
    rw [List.getElem?_toArray, h, List.getElem?_take, if_pos hj, List.getElem?_drop]
    simp
  · intro j v hv
    have hj : j < new.length := by
      rcases Nat.lt_or_ge j new.length with g | g
      · exact g
      · rw [List.getElem?_eq_none g] at hv; cases hv
    rw [Nat.zero_add, Array.getElem?_append_left (by simp; omega), Array.getElem?_append_right (by simp; omega)]
    simp [hl, hv]

theorem grown_row {ρ : Ren} {w w2 : World} {es cnt esz o len need n newCap b' : Nat} {wr wr' : Bool} {t t' : Trie (List AVal)} {cs : List AVal} {new old : List Value} {rest : Array Value} {elem : TypeId} {L : Loc} (hg : Grown esz es cnt t o len need cs t')
    (hO : ObjRel ρ w L (.cells es cnt wr t)) (hb' : ρ b' = none) (hlen : L.d + o + len * esz ≤ L.tot) (hneed : need = len + n) (hl : LRel ρ cs new) (h1 : One new) (hn : new.length = n * esz) (hcap : need ≤ newCap)
    (hold : ∀ arr fz, rowAt w L.c arr fz → old = (arr.toList.drop (L.d + o)).take (len * esz)) (hrest : rest.size = (newCap - need) * esz) (hp : Push (.cells (old.toArray ++ new.toArray ++ rest) elem) w w2) :
    ∃ tot, newCap * esz ≤ tot ∧ ObjRel (ρ.set b' ⟨w.heap.size, 0, tot⟩) w2 ⟨w.heap.size, 0, tot⟩ (.cells esz need wr' t') := by
  obtain ⟨arr, fz, hrow, hs, hnn, he, hz⟩ := hO.elems
  have ho := hold arr fz hrow
  obtain ⟨p1, p2⟩ := row_parts (new := new) (rest := rest) ho (by omega)
  have hle := Ren.le_set ⟨w.heap.size, 0, (old.toArray ++ new.toArray ++ rest).size⟩ hb'
  have hsz : (old.toArray ++ new.toArray ++ rest).size = newCap * esz := by
    have : old.length = len * esz := by rw [ho]; simp; omega
    simp [this, hn, hrest]
    rw [← Nat.add_mul, ← Nat.add_mul]
    congr 1; omega
  refine ⟨(old.toArray ++ new.toArray ++ rest).size, by omega, old.toArray ++ new.toArray ++ rest, fun _ => false, ⟨elem, 0, 0, by simp [hp.heap], fun j => by simp⟩, rfl, ?_, fun i hi => ?_, fun _ _ _ => rfl⟩
  · show 0 + need * esz ≤ (old.toArray ++ new.toArray ++ rest).size
    have := Nat.mul_le_mul_right esz hcap; omega
  · have he' : ElemsAt (ρ.set b' ⟨w.heap.size, 0, (old.toArray ++ new.toArray ++ rest).size⟩) arr L.d es cnt t := fun i hi => by
      obtain ⟨c, a1, a2, a3⟩ := he i hi
      exact ⟨c, a1, a2, fun j v hv => let ⟨cv, x, y, z⟩ := a3 j v hv; ⟨cv, x, y.mono hle, z⟩⟩
    obtain ⟨c, a1, a2, a3⟩ := hg _ arr L.d (old.toArray ++ new.toArray ++ rest) 0 n new hneed he' (hl.mono hle) h1 hn p1 p2 i hi
    exact ⟨c, a1, a2, fun f v hv => a3 f v hv⟩

theorem appCells {gl : Fixed} {esz b o len : Nat} {cap : ACap} {es cnt : Nat} {wr : Bool} {t : Trie (List AVal)} {cs : List AVal} {H : Heap} {kv : K} {need bd st e1 e2 : Nat}
    (h : ifB (andB (Nat.ble need cap.low) (Nat.ble bd (Nat.mul cnt es))) (ifB wr (writeCells es cnt t st cs fun t => H.put b (.cells es cnt wr t) fun H => kv (.sl b o need esz cap) H) e1)
      (ACap.rec (fun c => ifB (Nat.ble need c) e2 (appNew esz es cnt t o len need cs H kv)) (fun _ => appLose esz b es cnt wr t o len need cs H kv) cap) = 1)
    (he1 : e1 ≠ 1) (he2 : e2 ≠ 1) (hst : st = o + len * esz) (hob : H.f b = some (.cells es cnt wr t)) (hes : 0 < esz) : ∃ v H', kv v H' = 1 ∧ AppR P gl esz b o len cap H need cs v H' := by
  rcases ifB_one h with ⟨hc, h_1⟩ | ⟨hc, h_1⟩
  · obtain ⟨hcap, hbd⟩ := andB_true hc
    have hcap := Nat.le_of_ble_eq_true hcap
    obtain ⟨hwr, h_2⟩ := ifB_true h_1 he1
    obtain ⟨hle, t', h_3, hwc⟩ := writeCells_one h_2
    obtain ⟨H', h_4, hn, hf⟩ := Heap.put_one h_3
    refine ⟨_, H', h_4, fun w ρ cc L n new hr hfr hb hcc hlc htot hneed hl h1 hnl => ⟨fun hnc => ?_, fun hnc => ?_⟩⟩
    · obtain ⟨arr, fz, hrow, hs, hnn, he, hz⟩ := (hr.obj b _ _ hb hob).elems
      rw [hwr] at hz
      have hl1 := hl.1
      obtain ⟨w2, arr', g1, g2, g3, g4⟩ := run_storeRow (P := P) new L.c (L.d + o + len * esz) 0 w arr fz hrow (by omega) (fun j h1 h2 => hz j (by simp; omega) (by omega)) h1
      have he' := hwc ρ arr arr' L.d new he hl h1 (by omega) (by rw [g3, hst]; congr 1; omega)
      have hO : ObjRel ρ w2 L (.cells es cnt wr t') := by
        have hsz : arr'.size = arr.size := by
          have := congrArg List.length g3
          rw [over_length _ _ _ (by simp; omega)] at this
          simpa using this
        refine ⟨arr', fz, g2, by omega, hnn, fun i hi => ?_, fun j h1 h2 => hz j (by rw [hwr] at h1; exact h1) h2⟩
        obtain ⟨c, a1, a2, a3⟩ := he' i hi
        exact ⟨c, a1, a2, fun f v hv => a3 f v hv⟩
      obtain ⟨q1, q2⟩ := hr.put hb hob (by intro x; cases x) g4 hf hO
      have hpos : 0 < cc ∨ cc = 0 := by omega
      refine ⟨w2, ρ, g1, by rw [hn]; exact q2 _, q1, ?_⟩
      rcases hpos with hp | hp
      · exact .sl hb hcc hnc hp htot
      · subst hp
        have : need = 0 := by omega
        subst this
        exact .slE hb hcc (by omega)
    · have := capOk_low hcc; omega
  · cases cap with
    | ex c =>
      have hboth : Nat.ble need c = false ∧ appNew esz es cnt t o len need cs H kv = 1 := by
        rcases ifB_one (b := Nat.ble need c) h_1 with ⟨_, q⟩ | ⟨q1, q2⟩
        · exact absurd q he2
        · exact ⟨q1, q2⟩
      obtain ⟨hnc, hnew⟩ := hboth
      have hnc : c < need := by
        rcases Nat.lt_or_ge c need with g | g
        · exact g
        · rw [Nat.ble_eq_true_of_le g] at hnc; cases hnc
      obtain ⟨t', H', h_5, hn, hg⟩ := grownA hnew hes
      refine ⟨_, H', h_5, fun w ρ cc L n new hr hfr hb hcc hlc htot hneed hl h1 hnl => ⟨fun hnc' => ?_, fun _ newCap w2 rest old elem hcap hold hrest hp => ?_⟩⟩
      · have hcc : cc = c := hcc
        omega
      · have hb' : ρ H.next = none := hfr _ (Nat.le_refl _) (by rw [hn.1]; exact Nat.lt_succ_self _)
        have hlm : len * esz ≤ cc * esz := Nat.mul_le_mul_right esz hlc
        obtain ⟨tot, htt, hO⟩ := grown_row (b' := H.next) (wr' := true) hg (hr.obj b _ _ hb hob) hb' (by omega) hneed hl h1 hnl hcap hold hrest hp
        obtain ⟨q1, q2⟩ := hr.new hb' hp hn.2 hO
        exact ⟨_, by rw [hn.1]; exact q2, q1, sl_new hcap hcap htt⟩
    | ge c =>
      have h0 : ifB (orB wr (Nat.beq (Nat.add o (Nat.mul len esz)) (Nat.mul cnt es)))
        (H.put b .dead fun H =>
          ifB (andB (Nat.beq o 0) (andB (Nat.beq es esz) (Nat.beq len cnt)))
            (grownOn esz t len need wr cs H kv)
            (oldCells es cnt t o (Nat.mul len esz) fun old => appL old cs fun all => grown esz need wr all H kv)) 428 = 1 := h_1
      obtain ⟨hor, h1⟩ := ifB_true h0 (by decide)
      obtain ⟨Hd, h2, hdn, hdf⟩ := Heap.put_one h1
      have key : ∃ t' H', kv (.sl Hd.next 0 need esz (.ge need)) H' = 1 ∧ NewIn Hd (.cells esz need wr t') H' ∧ Grown esz es cnt t o len need cs t' := by
        rcases ifB_one h2 with ⟨hc2, h3⟩ | ⟨_, h3⟩
        · obtain ⟨c1, c2⟩ := andB_true hc2
          obtain ⟨c2, c3⟩ := andB_true c2
          have c1 := Nat.eq_of_beq_eq_true c1
          have c2 := Nat.eq_of_beq_eq_true c2
          have c3 := Nat.eq_of_beq_eq_true c3
          subst c1 c2
          exact grownB h3 c3 hes
        · exact grownA h3 hes
      obtain ⟨t', H', h4, hn, hg⟩ := key
      have hnx : H'.next = H.next + 1 := by rw [hn.1, hdn]
      have hff : ∀ m, H'.f m = if m = H.next then some (.cells esz need wr t') else if m = b then some .dead else H.f m := by
        intro m
        rw [hn.2, hdn, hdf]
      rw [hdn] at h4
      refine ⟨_, H', h4, fun w ρ cc L n new hr hfr hb hcc hlc htot hneed hl h1' hnl => ?_⟩
      have hb' : ρ H.next = none := hfr _ (Nat.le_refl _) (by rw [hnx]; exact Nat.lt_succ_self _)
      have hlm : len * esz ≤ cc * esz := Nat.mul_le_mul_right esz hlc
      have lv : live H.f b := ⟨_, hob, by intro x; cases x⟩
      refine ⟨fun hnc => ?_, fun _ newCap w2 rest old elem hcap hold hrest hp => ?_⟩
      · obtain ⟨arr, fz, hrow, hs, hnn, he, hz⟩ := (hr.obj b _ _ hb hob).elems
        have hz' : ∀ j, L.d + o + len * esz ≤ j → j < L.tot → fz j = false := by
          intro j h1 h2
          refine hz j ?_ h2
          rcases orB_true hor with e | e
          · rw [e]; simp; omega
          · have e : o + len * esz = cnt * es := Nat.eq_of_beq_eq_true e
            split <;> omega
        have hnm : need * esz ≤ cc * esz := Nat.mul_le_mul_right esz hnc
        have hne : need * esz = len * esz + n * esz := by rw [hneed, Nat.add_mul]
        obtain ⟨w2, arr', g1, g2, g3, g4⟩ := run_storeRow (P := P) new L.c (L.d + o + len * esz) 0 w arr fz hrow (by omega) (fun j h1 h2 => hz' j (by omega) (by omega)) h1'
        have hsz : arr'.size = arr.size := by
          have := congrArg List.length g3
          rw [over_length _ _ _ (by simp; omega)] at this
          simpa using this
        have hle := Ren.le_set ⟨L.c, L.d + o, L.tot⟩ hb'
        have he' : ElemsAt (ρ.set H.next ⟨L.c, L.d + o, L.tot⟩) arr L.d es cnt t := fun i hi => by
          obtain ⟨c, a1, a2, a3⟩ := he i hi
          exact ⟨c, a1, a2, fun j v hv => let ⟨cv, x, y, z⟩ := a3 j v hv; ⟨cv, x, y.mono hle, z⟩⟩
        have hel := hg _ arr L.d arr' (L.d + o) n new hneed he' (hl.mono hle) h1' hnl (fun p hp => by
            have : arr'.toList[L.d + o + p]? = arr.toList[L.d + o + p]? := by
              rw [g3, over_get _ _ _ _ (by simp; omega), if_neg (by omega)]
            simpa using this) (fun j v hv => by
            have hj : j < new.length := by
              rcases Nat.lt_or_ge j new.length with g | g
              · exact g
              · rw [List.getElem?_eq_none g] at hv; cases hv
            have : arr'.toList[L.d + o + len * esz + j]? = some v := by
              rw [g3, over_get _ _ _ _ (by simp; omega), if_pos (by omega)]
              rw [show L.d + o + len * esz + j - (L.d + o + len * esz + 0) = j by omega]; exact hv
            simpa using this)
        have hO : ObjRel (ρ.set H.next ⟨L.c, L.d + o, L.tot⟩) w2 ⟨L.c, L.d + o, L.tot⟩ (.cells esz need wr t') := by
          refine ⟨arr', fz, g2, by show arr'.size = L.tot; omega, by show L.d + o + need * esz ≤ L.tot; omega, fun i hi => ?_, fun j h1 h2 => ?_⟩
          · obtain ⟨c, a1, a2, a3⟩ := hel i hi
            exact ⟨c, a1, a2, fun f v hv => a3 f v hv⟩
          · have hjt : j < L.tot := h2
            have hj1 : (if wr then L.d + o else L.d + o + need * esz) ≤ j := h1
            cases wr with
            | true => exact hz j (by simp at hj1 ⊢; omega) hjt
            | false =>
              have hj2 : L.d + o + need * esz ≤ j := hj1
              exact hz' j (by omega) hjt
        obtain ⟨q1, q2⟩ := hr.alias hb lv hb' g4 hff hO
        refine ⟨w2, _, g1, by rw [hnx]; exact q2, q1, ?_⟩
        rcases Nat.eq_zero_or_pos cc with hp | hp
        · subst hp
          have : need = 0 := by omega
          subst this
          exact .slE (ρ.set_at H.next ⟨L.c, L.d + o, L.tot⟩) (by simp [capOk]) (by show L.d + o + 0 ≤ L.tot; omega)
        · have := VRel.sl (ρ := ρ.set H.next ⟨L.c, L.d + o, L.tot⟩) (b := H.next) (o := 0) (len := need) (esz := esz) (cap := .ge need) (cc := cc) (ρ.set_at H.next ⟨L.c, L.d + o, L.tot⟩) hnc hnc hp (by show L.d + o + 0 + cc * esz ≤ L.tot; omega)
          simpa using this
      · obtain ⟨tot, htt, hO⟩ := grown_row (b' := H.next) (wr' := wr) hg (hr.obj b _ _ hb hob) hb' (by omega) hneed hl h1' hnl hcap hold hrest hp
        obtain ⟨q1, q2⟩ := hr.lose hb' hp hff hO
        exact ⟨_, by rw [hnx]; exact q2, q1, sl_new hcap hcap htt⟩

end Go.Proofs.YtmgigdklcaepdaaGreatDoor.Ax
end

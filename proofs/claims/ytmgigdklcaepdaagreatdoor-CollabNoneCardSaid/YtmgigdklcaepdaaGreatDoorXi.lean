/-
  Maps: writing, ranging. · Maps: entries by their birth; ranging.
-/
import Derived.Test.YtmgigdklcaepdaaGreatDoorXh
set_option linter.unusedVariables false
set_option linter.unusedSimpArgs false
section
namespace Go.Proofs.YtmgigdklcaepdaaGreatDoor.Ax
set_option linter.unusedVariables false
set_option linter.unusedSimpArgs false

variable {P : Program}

theorem scEq_eq {x y : Value} (h : scEq x y = some true) : x = y := by
  cases x <;> cases y <;> simp [scEq] at h
  · rw [h]
  · obtain ⟨rfl, rfl⟩ := h; rfl
  · have := (bytes_beq _ _).mp ((beq_toListBytes _ _).trans (beq_iff_eq.mpr h))
    rw [this]
theorem ScL.eq {ts : List Nat} : ∀ {xs ys : List Value}, ScL ts xs ys true → xs = ys := by
  induction ts with
  | nil => intro xs ys h; cases xs <;> cases ys <;> simp_all [ScL]
  | cons t ts ih =>
    intro xs ys h
    cases xs with
    | nil => cases ys <;> simp [ScL] at h
    | cons x xs =>
      cases ys with
      | nil => simp [ScL] at h
      | cons y ys =>
        obtain ⟨_, b, hb, h_1⟩ := h
        cases b with
        | false => simp at h_1
        | true => simp at h_1; rw [scEq_eq hb, ih h_1]
theorem KeyR.eq {kt : TypeId} {a b : Value} (h : KeyR P kt a b true) : a = b := by
  rcases h with ⟨s, t, rfl, rfl, _, h_1⟩ | ⟨xs, ys, fs, ts, rfl, rfl, _, _, h_1, _⟩
  · rw [(bytes_beq _ _).mp h_1]
  · have := h_1.eq
    congr 1
    exact Array.ext' this

theorem FindAt.key {kt : TypeId} {ck : Value} : ∀ {ces : List MapEntry} {i : Nat}, FindAt P kt ck ces i → ∃ c, ces[i]? = some c ∧ KeyR P kt ck c.key true := by
  intro ces
  induction ces with
  | nil => intro i h; exact absurd h (by simp [FindAt])
  | cons c cs ih =>
    intro i h
    cases i with
    | zero => exact ⟨c, rfl, h⟩
    | succ i => obtain ⟨d, h1, h2⟩ := ih h.2; exact ⟨d, by simpa using h1, h2⟩

theorem upd_one {ts : List Nat} {kt : TypeId} (hk : KeyT P kt ts) {key val : AVal} {es : List MEnt} : ∀ {k : List MEnt → Nat}, upd ts key val es k = 1 →
    ∃ i e, es[i]? = some e ∧ k (es.set i ⟨key, val, e.born⟩) = 1 ∧ ∀ ρ ck ces, VRel ρ key ck → EntsRel ρ es ces → FindAt P kt ck ces i := by
  induction es with
  | nil => intro k h; cases h
  | cons x es ih =>
    intro k h
    obtain ⟨ky, v, n⟩ := x
    have h0 : keq ts key ky (fun r => ifB r (k (⟨key, val, n⟩ :: es)) (upd ts key val es fun l => k (⟨ky, v, n⟩ :: l))) = 1 := h
    obtain ⟨r, h1, hr⟩ := keq_one h0 hk
    rcases ifB_one h1 with ⟨rfl, h2⟩ | ⟨rfl, h2⟩
    · refine ⟨0, ⟨ky, v, n⟩, rfl, h2, fun ρ ck ces hc he => ?_⟩
      obtain ⟨c, cs, rfl, e, _⟩ := he.uncons
      exact hr ρ ck c.key hc e.1
    · obtain ⟨i, e, h3, h4, h5⟩ := ih h2
      refine ⟨i + 1, e, by simpa using h3, by simpa using h4, fun ρ ck ces hc he => ?_⟩
      obtain ⟨c, cs, rfl, e', he⟩ := he.uncons
      exact ⟨hr ρ ck c.key hc e'.1, h5 ρ ck cs hc he⟩
theorem del_one {ts : List Nat} {kt : TypeId} (hk : KeyT P kt ts) {key : AVal} {es : List MEnt} : ∀ {k : List MEnt → Nat}, del ts key es k = 1 →
    ∃ oi : Option Nat, k (match oi with | none => es | some i => es.eraseIdx i) = 1 ∧ ∀ ρ ck ces, VRel ρ key ck → EntsRel ρ es ces → FindR P kt ck oi ces := by
  induction es with
  | nil => intro k h; exact ⟨none, h, fun ρ ck ces _ hr => by rw [hr.nil_inv]; intro c hc; cases hc⟩
  | cons x es ih =>
    intro k h
    obtain ⟨ky, v, n⟩ := x
    have h0 : keq ts key ky (fun r => ifB r (k es) (del ts key es fun l => k (⟨ky, v, n⟩ :: l))) = 1 := h
    obtain ⟨r, h1, hr⟩ := keq_one h0 hk
    rcases ifB_one h1 with ⟨rfl, h2⟩ | ⟨rfl, h2⟩
    · refine ⟨some 0, by simpa using h2, fun ρ ck ces hc he => ?_⟩
      obtain ⟨c, cs, rfl, e, _⟩ := he.uncons
      exact hr ρ ck c.key hc e.1
    · obtain ⟨oi, h3, h4⟩ := ih h2
      refine ⟨oi.map (· + 1), by cases oi <;> simpa using h3, fun ρ ck ces hc he => ?_⟩
      obtain ⟨c, cs, rfl, e, he⟩ := he.uncons
      have h0 := hr ρ ck c.key hc e.1
      have h5 := h4 ρ ck cs hc he
      cases oi with
      | none =>
        intro x hx
        rcases List.mem_cons.mp hx with rfl | hx
        · exact h0
        · exact h5 x hx
      | some i => exact ⟨h0, h5⟩

theorem setObj_only {w : World} {r : Nat} {es : Array MapEntry} {c : Nat} (hb : w.heap[r]? = some (.map es c)) (o : Obj) :
    (setObj r o).run P w = .ok () { w with heap := w.heap.setIfInBounds r o } ∧ Only r w { w with heap := w.heap.setIfInBounds r o } ∧ (w.heap.setIfInBounds r o)[r]? = some o := by
  have hlt : r < w.heap.size := (Array.getElem?_eq_some_iff.1 hb).1
  exact ⟨by simp [setObj, Sem.run, hb], ⟨fun c' h => by simp [Ne.symm h], by simp, rfl, rfl, rfl⟩, by simp [hlt]⟩
theorem setObj_iter {w : World} {r : Nat} {m : Option Nat} {s : Nat} {es : Array Nat} {c : Nat} (hb : w.heap[r]? = some (.mapIter m s es c)) (o : Obj) :
    (setObj r o).run P w = .ok () { w with heap := w.heap.setIfInBounds r o } ∧ Only r w { w with heap := w.heap.setIfInBounds r o } ∧ (w.heap.setIfInBounds r o)[r]? = some o := by
  have hlt : r < w.heap.size := (Array.getElem?_eq_some_iff.1 hb).1
  exact ⟨by simp [setObj, Sem.run, hb], ⟨fun c' h => by simp [Ne.symm h], by simp, rfl, rfl, rfl⟩, by simp [hlt]⟩

theorem map_obj {ρ : Ren} {w : World} {L : Loc} {es : List MEnt} {ces : Array MapEntry} {c : Nat} (h : w.heap[L.c]? = some (.map ces c)) (he : EntsRel ρ es ces.toList) : ObjRel ρ w L (.map es c) :=
  ⟨ces, h, by simpa using he.1, fun i e c h1 h2 => he.2 i e c h1 (by simpa using h2)⟩
/-- A map gets other entries. -/
theorem put_map {gl : Fixed} {H H' : Heap} {ρ : Ren} {w : World} {b : Nat} {L : Loc} {es es' : List MEnt} {c c' : Nat} {ces ces' : Array MapEntry} (hr : HR gl H.f ρ w) (hb : ρ b = some L) (ho : H.f b = some (.map es c)) (hh : w.heap[L.c]? = some (.map ces c))
    (hn : H'.next = H.next) (hf : ∀ m, H'.f m = if m = b then some (.map es' c') else H.f m) (he : EntsRel ρ es' ces'.toList) :
    (setObj L.c (.map ces' c')).run P w = .ok () { w with heap := w.heap.setIfInBounds L.c (.map ces' c') } ∧ HR gl H'.f ρ { w with heap := w.heap.setIfInBounds L.c (.map ces' c') } ∧
      Grow H.f ρ w H.next H'.f ρ { w with heap := w.heap.setIfInBounds L.c (.map ces' c') } H'.next := by
  obtain ⟨e1, e2, e3⟩ := setObj_only (P := P) hh (.map ces' c')
  obtain ⟨q1, q2⟩ := hr.put hb ho (by intro x; cases x) e2 hf (map_obj e3 he)
  exact ⟨e1, q1, by rw [hn]; exact q2 _⟩

theorem ents_set {ρ : Ren} {es : List MEnt} {ces : Array MapEntry} {i : Nat} {e' : MEnt} {f : MapEntry → MapEntry} (he : EntsRel ρ es ces.toList) (h : ∀ c, ces[i]? = some c → entRel ρ e' (f c)) : EntsRel ρ (es.set i e') (ces.modify i f).toList := by
  have hl := he.1
  refine ⟨by simpa using hl, fun j x y hx hy => ?_⟩
  have hy : (ces.modify i f)[j]? = some y := by rw [Array.getElem?_toList] at hy; exact hy
  rw [List.getElem?_set] at hx
  rw [Array.getElem?_modify] at hy
  by_cases hj : i = j
  · subst hj
    rw [if_pos rfl] at hx hy
    cases hc : ces[i]? with
    | none => rw [hc] at hy; cases hy
    | some c =>
      rw [hc] at hy
      simp at hy
      split at hx
      · injection hx with hx; rw [← hx, ← hy]; exact h c hc
      · cases hx
  · rw [if_neg hj] at hx hy
    exact he.2 j x y hx (by simpa using hy)
theorem ents_push {ρ : Ren} {es : List MEnt} {ces : Array MapEntry} {e : MEnt} {c : MapEntry} (he : EntsRel ρ es ces.toList) (h : entRel ρ e c) : EntsRel ρ (es ++ [e]) (ces.push c).toList := by
  rw [Array.toList_push]; exact he.append (.cons h .nil)

theorem pMapUpdate_ok {gl : Fixed} {ts : List Nat} {x key val : AVal} {H : Heap} {kv : K} (h : pMapUpdate ts x key val H kv = 1) {t kt et : TypeId} (ht : P.underlying t = some (.map kt et)) (hk : KeyT P kt ts) :
    ∃ v H', kv v H' = 1 ∧ Acts3 P gl H (fun x k y => do Instr.mapUpdate t x k y; pure undef) x key val v H' := by
  obtain ⟨h_1, hs⟩ := pKey_one h
  rcases onMap_one h_1 with ⟨b, rfl, h_2⟩ | ⟨rfl, h_2⟩
  · obtain ⟨ob, hob, h_3⟩ := Heap.get_one h_2
    obtain ⟨es, c, rfl, h_4⟩ := onMapO_one h_3
    have h0 : force c (fun clock => find ts key es (appL es [⟨key, val, clock⟩] fun es => H.put b (.map es (Nat.succ clock)) fun H => kv .undef H) fun _ _ => upd ts key val es fun es => H.put b (.map es clock) fun H => kv .undef H) = 1 := h_4
    rw [force_eq] at h0
    obtain ⟨oi, h1, hf⟩ := find_one hk h0
    cases oi with
    | none =>
      have h1 : appL es [⟨key, val, c⟩] (fun es => H.put b (.map es (Nat.succ c)) fun H => kv .undef H) = 1 := h1
      rw [appL_eq] at h1
      obtain ⟨H', h2, hn, hff⟩ := Heap.put_one h1
      refine ⟨_, H', h2, fun w ρ cx ck cy hr _ rx rk ry => ?_⟩
      cases rx with
      | @map _ L hb =>
        obtain ⟨ces, hc, he⟩ := hr.ents hb hob
        have hfk := run_find hk w (hf ρ ck _ rk he)
        obtain ⟨q1, q2, q3⟩ := put_map (P := P) hr hb hob hc hn hff (ents_push (e := ⟨key, val, c⟩) (c := { key := ck, val := cy, born := c }) he ⟨rk, ry, rfl⟩)
        refine ⟨undef, ρ, _, ?_, q3, q2, .undef⟩
        simp only [Instr.mapUpdate, Sem.run_bind, run_und ht, Result.andThen_ok, run_getMap hc, run_checkKeyT hk w (hs ρ ck rk), hfk, Option.bind_none]
        rw [q1]; rfl
    | some j =>
      obtain ⟨e, _, h2⟩ := h1
      obtain ⟨i, e, hi, h3, hfa⟩ := upd_one hk h2
      obtain ⟨H', h4, hn, hff⟩ := Heap.put_one h3
      refine ⟨_, H', h4, fun w ρ cx ck cy hr _ rx rk ry => ?_⟩
      cases rx with
      | @map _ L hb =>
        obtain ⟨ces, hc, he⟩ := hr.ents hb hob
        have hfa := hfa ρ ck _ rk he
        have hfk := run_find hk (oi := some i) w hfa
        obtain ⟨ce, hce, hky⟩ := hfa.key
        have hce' : ces[i]? = some ce := by simpa using hce
        have hent := he.2 i e ce hi hce
        obtain ⟨q1, q2, q3⟩ := put_map (P := P) hr hb hob hc hn hff (ents_set (e' := ⟨key, val, e.born⟩) (f := fun x => { x with key := ck, val := cy }) he (fun c' hc' => by
          rw [hce'] at hc'; injection hc' with hc'; subst hc'; exact ⟨rk, ry, hent.2.2⟩))
        refine ⟨undef, ρ, _, ?_, q3, q2, .undef⟩
        simp only [Instr.mapUpdate, Sem.run_bind, run_und ht, Result.andThen_ok, run_getMap hc, run_checkKeyT hk w (hs ρ ck rk), hfk, Option.bind_some, hce, Option.map_some, hce', Option.getD_some, hky.stays w]
        rw [q1]; rfl
  · cases h_2

theorem pDelete_ok {gl : Fixed} {ts : List Nat} {x key : AVal} {H : Heap} {kv : K} (h : pDelete ts x key H kv = 1) {t kt et : TypeId} (ht : P.underlying t = some (.map kt et)) (hk : KeyT P kt ts) (ty : TypeId) (tys : Array TypeId) (hts : tys[0]? = some t) :
    ∃ v H', kv v H' = 1 ∧ Acts2 P gl H (fun x k => Builtin.delete_ tys ty #[x, k]) x key v H' := by
  obtain ⟨h_1, hs⟩ := pKey_one h
  rcases onMap_one h_1 with ⟨b, rfl, h_2⟩ | ⟨rfl, h_2⟩
  · obtain ⟨ob, hob, h_3⟩ := Heap.get_one h_2
    obtain ⟨es, c, rfl, h_4⟩ := onMapO_one h_3
    obtain ⟨oi, h_5, hf⟩ := del_one hk h_4
    obtain ⟨H', h_6, hn, hff⟩ := Heap.put_one h_5
    refine ⟨_, H', h_6, fun w ρ cx ck hr _ rx rk => ?_⟩
    cases rx with
    | @map _ L hb =>
      obtain ⟨ces, hc, he⟩ := hr.ents hb hob
      have hfr := hf ρ ck _ rk he
      have hfk := run_find hk w hfr
      cases oi with
      | none =>
        obtain ⟨q1, q2, q3⟩ := put_map (P := P) hr hb hob hc hn hff he
        refine ⟨undef, ρ, _, ?_, q3, q2, .undef⟩
        simp [Builtin.delete_, Sem.run_bind, run_und ht, hts, run_getMap hc, run_checkKeyT hk w (hs ρ ck rk), hfk, q1, undef]
      | some i =>
        obtain ⟨ce, hce, hky⟩ := FindAt.key hfr
        have hce' : ces[i]? = some ce := by simpa using hce
        have hlt : i < ces.size := (Array.getElem?_eq_some_iff.1 hce').1
        have he2 : EntsRel ρ (es.eraseIdx i) (ces.eraseIdxIfInBounds i).toList := by
          have e : (ces.eraseIdxIfInBounds i).toList = ces.toList.eraseIdx i := by
            unfold Array.eraseIdxIfInBounds
            rw [dif_pos hlt, Array.toList_eraseIdx]
          rw [e]
          have hl := he.1
          refine ⟨by rw [List.length_eraseIdx, List.length_eraseIdx, hl], fun j x y hx hy => ?_⟩
          rw [List.getElem?_eraseIdx] at hx hy
          split at hx
          · rename_i g; rw [if_pos g] at hy; exact he.2 _ _ _ hx hy
          · rename_i g; rw [if_neg g] at hy; exact he.2 _ _ _ hx hy
        obtain ⟨q1, q2, q3⟩ := put_map (P := P) hr hb hob hc hn hff he2
        refine ⟨undef, ρ, _, ?_, q3, q2, .undef⟩
        simp [Builtin.delete_, Sem.run_bind, run_und ht, hts, run_getMap hc, run_checkKeyT hk w (hs ρ ck rk), hfk, hce', q1, undef]
  · cases h_2

theorem pMapEntry_ok {gl : Fixed} {ts : List Nat} {zero x key : AVal} {H : Heap} {kv : K} (h : pMapEntry ts zero x key H kv = 1) {t kt et : TypeId} {i : TypeInfo} {z : Value} (ht : P.underlying t = some (.map kt et)) (hk : KeyT P kt ts)
    (hi : P.info? et = some i) (hz : i.zero = some z) (hzz : ∀ ρ, VRel ρ zero z) : ∃ v H', kv v H' = 1 ∧ Acts2 P gl H (Instr.mapEntry t) x key v H' := by
  have two : ∀ {ρ : Ren} {a b : AVal} {ca cb : Value}, VRel ρ a ca → VRel ρ b cb → VRel ρ (.z (.tuple [a, b])) (.tuple #[ca, cb]) := fun ha hb => .tupleL (.cons ha (.cons hb .nil))
  obtain ⟨h_1, hs⟩ := pKey_one h
  rcases onMap_one h_1 with ⟨b, rfl, h_2⟩ | ⟨rfl, h_2⟩
  · obtain ⟨ob, hob, h_3⟩ := Heap.get_one h_2
    obtain ⟨es, c, rfl, h_4⟩ := onMapO_one h_3
    rw [force_eq] at h_4
    obtain ⟨oi, h1, hf⟩ := find_one hk h_4
    cases oi with
    | none =>
      have h1 : appL es [⟨key, zero, c⟩] (fun es => H.put b (.map es (Nat.succ c)) fun H => kv (.z (.tuple [zero, .n c])) H) = 1 := h1
      rw [appL_eq] at h1
      obtain ⟨H', h2, hn, hff⟩ := Heap.put_one h1
      refine ⟨_, H', h2, fun w ρ cx ck hr _ rx rk => ?_⟩
      cases rx with
      | @map _ L hb =>
        obtain ⟨ces, hc, he⟩ := hr.ents hb hob
        have hfk := run_find hk w (hf ρ ck _ rk he)
        obtain ⟨q1, q2, q3⟩ := put_map (P := P) hr hb hob hc hn hff (ents_push (e := ⟨key, zero, c⟩) (c := { key := ck, val := z, born := c }) he ⟨rk, hzz ρ, rfl⟩)
        refine ⟨.tuple #[z, goInt c], ρ, _, ?_, q3, q2, two (hzz ρ) (.n c)⟩
        simp only [Instr.mapEntry, Sem.run_bind, run_und ht, Result.andThen_ok, run_getMap hc, run_checkKeyT hk w (hs ρ ck rk), hfk, Option.bind_none, run_zero hi hz]
        rw [q1]; rfl
    | some j =>
      obtain ⟨e, hj, h2⟩ := h1
      refine ⟨_, H, h2, fun w ρ cx ck hr _ rx rk => ?_⟩
      cases rx with
      | @map _ L hb =>
        obtain ⟨ces, hc, he⟩ := hr.ents hb hob
        have hfa := hf ρ ck _ rk he
        have hfk := run_find hk w hfa
        obtain ⟨ce, hce, hky⟩ := FindAt.key hfa
        have hce' : ces[j]? = some ce := by simpa using hce
        have hent := he.2 j e ce hj hce
        have hsame : ces.modify j (fun x => { x with key := ck }) = ces := by
          apply Array.ext_getElem?
          intro m
          rw [Array.getElem?_modify]
          split
          · rename_i g; subst g; rw [hce', hky.eq]; rfl
          · rfl
        have hlt : L.c < w.heap.size := (Array.getElem?_eq_some_iff.1 hc).1
        have hw : ({ w with heap := w.heap.setIfInBounds L.c (.map ces c) } : World) = w := by
          have : w.heap.setIfInBounds L.c (.map ces c) = w.heap := by
            apply Array.ext_getElem?
            intro m
            rw [Array.getElem?_setIfInBounds]
            split
            · rename_i g; subst g; rw [hc]
            · rfl
          rw [this]
        refine ⟨.tuple #[ce.val, goInt ce.born], ρ, w, ?_, Grow.refl _ _ _ _, hr, two hent.2.1 (by rw [hent.2.2]; exact .n _)⟩
        simp only [Instr.mapEntry, Sem.run_bind, run_und ht, Result.andThen_ok, run_getMap hc, run_checkKeyT hk w (hs ρ ck rk), hfk, Option.bind_some, hce, Option.map_some, hce', Option.getD_some, hky.stays w]
        rw [hsame, (setObj_only (P := P) hc _).1, hw]; rfl
  · cases h_2

end Go.Proofs.YtmgigdklcaepdaaGreatDoor.Ax
end
section
namespace Go.Proofs.YtmgigdklcaepdaaGreatDoor.Ax
set_option linter.unusedVariables false
set_option linter.unusedSimpArgs false

variable {P : Program}

theorem updB_one {n : Nat} {val : AVal} {es : List MEnt} : ∀ {k : List MEnt → Nat}, updB n val es k = 1 →
    ∃ i e, es[i]? = some e ∧ e.born = n ∧ (∀ j e', j < i → es[j]? = some e' → e'.born ≠ n) ∧ k (es.set i ⟨e.key, val, e.born⟩) = 1 := by
  induction es with
  | nil => intro k h; cases h
  | cons x es ih =>
    intro k h
    obtain ⟨ky, v, m⟩ := x
    have h0 : ifB (Nat.beq n m) (k (⟨ky, val, m⟩ :: es)) (updB n val es fun l => k (⟨ky, v, m⟩ :: l)) = 1 := h
    rcases ifB_one h0 with ⟨e, h1⟩ | ⟨e, h1⟩
    · have e := Nat.eq_of_beq_eq_true e
      exact ⟨0, _, rfl, e.symm, fun j _ hj => by omega, h1⟩
    · obtain ⟨i, e', h2, h3, h4, h5⟩ := ih h1
      refine ⟨i + 1, e', by simpa using h2, h3, fun j e'' hj hje => ?_, by simpa using h5⟩
      cases j with
      | zero =>
        simp at hje; subst hje
        intro q
        have q : m = n := q
        subst q
        rw [show Nat.beq m m = true from Nat.beq_refl m] at e; cases e
      | succ j => exact h4 j e'' (by omega) (by simpa using hje)

theorem pEntryStore_ok {gl : Fixed} {x st val : AVal} {H : Heap} {kv : K} (h : pEntryStore x st val H kv = 1) (t : TypeId) :
    ∃ v H', kv v H' = 1 ∧ Acts3 P gl H (fun x s y => do Instr.entryStore t x s y; pure undef) x st val v H' := by
  rcases onMap_one h with ⟨b, rfl, h_1⟩ | ⟨rfl, h_1⟩
  · obtain ⟨ob, hob, h_2⟩ := Heap.get_one h_1
    obtain ⟨es, c, rfl, h_3⟩ := onMapO_one h_2
    obtain ⟨j, n, hst, h_4⟩ := onInt_one h_3
    obtain ⟨n, rfl, h_5⟩ := natI_one h_4
    obtain ⟨i, e, h1, h2, h3, h_6⟩ := updB_one h_5
    obtain ⟨H', h_7, hn, hff⟩ := Heap.put_one h_6
    refine ⟨_, H', h_7, fun w ρ cx cs cy hr _ rx rs ry => ?_⟩
    rw [int_inv rs hst]
    cases rx with
    | @map _ L hb =>
      obtain ⟨ces, hc, he⟩ := hr.ents hb hob
      obtain ⟨ce, hce, hent⟩ := findR_some (kt := 0) (ck := undef) he h1
      have hce' : ces[i]? = some ce := by simpa using hce
      have hlt : i < ces.size := (Array.getElem?_eq_some_iff.1 hce').1
      have hfi : ces.findIdx? (fun e => ((e.born : Int) == Int.ofNat n)) = some i := by
        rw [Array.findIdx?_eq_some_iff_getElem]
        refine ⟨hlt, ?_, fun j hj => ?_⟩
        · have : ces[i] = ce := by rw [Array.getElem?_eq_getElem hlt] at hce'; injection hce'
          rw [this, hent.2.2, h2]; simp
        · have hlj : j < es.length := by have := he.1; simp at this; omega
          have hr2 := he.2 j es[j] ces[j] (List.getElem?_eq_getElem hlj) (by simp)
          have := h3 j _ hj (List.getElem?_eq_getElem hlj)
          rw [hr2.2.2]
          simp only [beq_iff_eq, Bool.not_eq_true]
          intro q
          apply this
          have : ((es[j].born : Nat) : Int) = (n : Int) := q
          omega
      obtain ⟨q1, q2, q3⟩ := put_map (P := P) hr hb hob hc hn hff (ents_set (e' := ⟨e.key, val, e.born⟩) (f := fun x => { x with val := cy }) he (fun c' hc' => by
        rw [hce'] at hc'; injection hc' with hc'; subst hc'; exact ⟨hent.1, ry, hent.2.2⟩))
      refine ⟨undef, ρ, _, ?_, q3, q2, .undef⟩
      simp only [Instr.entryStore, Sem.run_bind, run_getMap hc, Result.andThen_ok, asInt, asIntOf, Sem.run_pure, hfi]
      rw [q1]; rfl
  · cases h_1

theorem iter_obj {ρ : Ren} {w w' : World} {m cm : Option Nat} {since clock : Nat} (hm : match m, cm with | none, none => True | some b, some c => ∃ L', ρ b = some L' ∧ L'.c = c | _, _ => False) (hp : Push (.mapIter cm since #[] clock) w w') :
    ObjRel ρ w' ⟨w.heap.size, 0, 0⟩ (.iter m since [] clock) := ⟨rfl, cm, #[], by simp [hp.heap], rfl, hm⟩

theorem pRange_ok {gl : Fixed} {x : AVal} {H : Heap} {kv : K} (h : pRange x H kv = 1) {t k e : TypeId} (ht : P.underlying t = some (.map k e)) : ∃ v H', kv v H' = 1 ∧ Acts1 P gl H (Instr.range t) x v H' := by
  rcases onMap_one h with ⟨b, rfl, h_1⟩ | ⟨rfl, h_1⟩
  · obtain ⟨ob, hob, h_2⟩ := Heap.get_one h_1
    obtain ⟨es, c, rfl, h_3⟩ := onMapO_one h_2
    obtain ⟨H', h_4, hn, hff⟩ := Heap.new_one h_3
    refine ⟨_, H', h_4, fun w ρ cx hr hfr rx => ?_⟩
    have hb' : ρ H.next = none := hfr _ (Nat.le_refl _) (by rw [hn]; exact Nat.lt_succ_self _)
    cases rx with
    | @map _ L hb =>
      obtain ⟨ces, hc, he⟩ := hr.ents hb hob
      have hp : Push (.mapIter (some L.c) c #[] c) w { w with heap := w.heap.push (.mapIter (some L.c) c #[] c) } := ⟨rfl, rfl, rfl, rfl⟩
      obtain ⟨q1, q2⟩ := hr.new (tot := 0) hb' hp hff (iter_obj (m := some b) (cm := some L.c) ⟨L, Ren.le_set _ hb' _ _ hb, rfl⟩ hp)
      refine ⟨.pointer (some ⟨w.heap.size, 0, none⟩), _, _, ?_, by rw [hn]; exact q2, q1, ?_⟩
      · simp only [Instr.range, Sem.run_bind, run_und ht, Result.andThen_ok, run_getMap hc, Sem.run_pure, run_newObj]
      · have := VRel.p (ρ := ρ.set H.next ⟨w.heap.size, 0, 0⟩) (b := H.next) (o := 0) (ρ.set_at H.next ⟨w.heap.size, 0, 0⟩)
        simpa using this
  · obtain ⟨H', h_5, hn, hff⟩ := Heap.new_one h_1
    refine ⟨_, H', h_5, fun w ρ cx hr hfr rx => ?_⟩
    have hb' : ρ H.next = none := hfr _ (Nat.le_refl _) (by rw [hn]; exact Nat.lt_succ_self _)
    cases rx
    have hp : Push (.mapIter none 0 #[] 0) w { w with heap := w.heap.push (.mapIter none 0 #[] 0) } := ⟨rfl, rfl, rfl, rfl⟩
    obtain ⟨q1, q2⟩ := hr.new (tot := 0) hb' hp hff (iter_obj (m := none) (cm := none) trivial hp)
    refine ⟨.pointer (some ⟨w.heap.size, 0, none⟩), _, _, ?_, by rw [hn]; exact q2, q1, ?_⟩
    · simp only [Instr.range, Sem.run_bind, run_und ht, Result.andThen_ok, Sem.run_pure, run_newObj]
    · have := VRel.p (ρ := ρ.set H.next ⟨w.heap.size, 0, 0⟩) (b := H.next) (o := 0) (ρ.set_at H.next ⟨w.heap.size, 0, 0⟩)
      simpa using this

theorem memN_eq (n : Nat) (l : List Nat) : memN n l = l.contains n := by
  induction l with
  | nil => rfl
  | cons x l ih =>
    show orB (Nat.beq n x) (memN n l) = _
    rw [orB_eq, ih, List.contains_cons]
    congr 1
    rw [Bool.eq_iff_iff, Nat.beq_eq, beq_iff_eq]
theorem unseen_one {seen : List Nat} {es : List MEnt} : ∀ {k : List MEnt → Nat}, unseen seen es k = k (es.filter fun e => !seen.contains e.born) := by
  induction es with
  | nil => intro k; rfl
  | cons x es ih =>
    intro k
    obtain ⟨ky, v, n⟩ := x
    show ifB (memN n seen) (unseen seen es k) (unseen seen es fun l => k (⟨ky, v, n⟩ :: l)) = _
    rw [ifB_eq, memN_eq, ih, ih, List.filter_cons]
    cases hc : seen.contains n <;> simp [hc]
theorem EntsRel.filter {ρ : Ren} (f : Nat → Bool) : ∀ {es : List MEnt} {ces : List MapEntry}, EntsRel ρ es ces → EntsRel ρ (es.filter fun e => f e.born) (ces.filter fun c => f c.born) := by
  intro es
  induction es with
  | nil => intro ces h; rw [h.nil_inv]; exact .nil
  | cons e es ih =>
    intro ces h
    obtain ⟨c, cs, rfl, he, h_1⟩ := h.uncons
    rw [List.filter_cons, List.filter_cons, he.2.2]
    split
    · exact .cons he (ih h_1)
    · exact ih h_1
theorem allLate_eq (t : Nat) (es : List MEnt) : allLate t es = es.all fun e => decide (t ≤ e.born) := by
  induction es with
  | nil => rfl
  | cons x es ih =>
    show andB (Nat.ble t x.born) (allLate t es) = _
    rw [andB_eq, ih, List.all_cons]
    congr 1
    rw [Bool.eq_iff_iff, Nat.ble_eq, decide_eq_true_iff]

theorem pNext_ok {gl : Fixed} {x : AVal} {H : Heap} {kv : K} (h : pNext x H kv = 1) (ty : TypeId) : ∃ v H', kv v H' = 1 ∧ Acts1 P gl H (fun x => Instr.next x false ty) x v H' := by
  have one : ∀ {ρ : Ren}, VRel ρ (.z (.tuple [.ff])) (.tuple #[.bool false]) := .tupleL (.cons .ff .nil)
  rcases onPtr_one h with ⟨b, o, rfl, h_1⟩ | ⟨g, o, rfl, h_1⟩
  · obtain ⟨ho, h_2⟩ := ifB_true h_1 (by decide)
    have ho := Nat.eq_of_beq_eq_true ho
    subst ho
    obtain ⟨ob, hob, h_3⟩ := Heap.get_one h_2
    obtain ⟨m, since, seen, stepped, rfl, h_4⟩ := onIter_one h_3
    cases m with
    | none =>
      refine ⟨_, H, h_4, fun w ρ cx hr _ rx => ?_⟩
      cases rx with
      | @p _ _ L hb =>
        obtain ⟨hd, cm, cs, hc, hs, hm⟩ := hr.obj b _ _ hb hob
        cases cm with
        | some _ => exact absurd hm (by simp)
        | none =>
          refine ⟨_, ρ, w, ?_, Grow.refl _ _ _ _, hr, one⟩
          rw [hd]
          simp [Instr.next, Sem.run_bind, getObj, Sem.run, hc]
    | some mb =>
      have h0 : H.get mb (fun mo => onMapO mo fun es clock =>
          ifB (andB (Nat.ble 1 (len' seen)) (andB (Nat.ble 1 (len' es)) (allLate stepped es))) 456
            (unseen seen es fun left => List.rec (kv (.z (.tuple [.ff])) H)
              (fun x xs _ => List.rec (MEnt.rec (fun ky v n => ifB (Nat.ble (Nat.succ n) since)
                  (H.put b (.iter (some mb) since (n :: seen) clock) fun H => kv (.z (.tuple [.tt, ky, v])) H) 457) x) (fun _ _ _ => 458) xs) left)) = 1 := h_4
      obtain ⟨mo, hmo, h1⟩ := Heap.get_one h0
      obtain ⟨es, clock, rfl, h2⟩ := onMapO_one h1
      rcases ifB_one h2 with ⟨_, h3⟩ | ⟨hcond, h3⟩
      · cases h3
      · rw [unseen_one] at h3
        have hgone : ∀ (cs : Array Nat) (ces : Array MapEntry) (ρ : Ren), cs.toList.reverse = seen → EntsRel ρ es ces.toList → ((!cs.isEmpty && !ces.isEmpty) && ces.all fun e => decide (e.born ≥ stepped)) = false := by
          intro cs ces ρ hs he
          rw [andB_eq, andB_eq, len'_eq, len'_eq, allLate_eq] at hcond
          have e1 : Nat.ble 1 seen.length = !cs.isEmpty := by
            rw [← hs, Bool.eq_iff_iff, Nat.ble_eq]; simp [Array.size_pos_iff.symm]; omega
          have e2 : Nat.ble 1 es.length = !ces.isEmpty := by
            rw [he.1, Bool.eq_iff_iff, Nat.ble_eq]; simp [Array.size_pos_iff.symm]; omega
          have e3 : (es.all fun e => decide (stepped ≤ e.born)) = ces.all fun e => decide (e.born ≥ stepped) := by
            have : ∀ (es : List MEnt) (ces : List MapEntry), EntsRel ρ es ces → (es.all fun e => decide (stepped ≤ e.born)) = ces.all fun e => decide (e.born ≥ stepped) := by
              intro es
              induction es with
              | nil => intro ces h_4; rw [h_4.nil_inv]; rfl
              | cons e es ih =>
                intro ces h_4
                obtain ⟨c, cs, rfl, he, h_5⟩ := h_4.uncons
                rw [List.all_cons, List.all_cons, ih _ h_5, he.2.2]
            rw [this _ _ he]
            simp
          rw [e1, e2, e3, ← Bool.and_assoc] at hcond
          exact hcond
        cases hleft : es.filter fun e => !seen.contains e.born with
        | nil =>
          rw [hleft] at h3
          refine ⟨_, H, h3, fun w ρ cx hr _ rx => ?_⟩
          cases rx with
          | @p _ _ L hb =>
            obtain ⟨hd, cm, cs, hc, hs, hm⟩ := hr.obj b _ _ hb hob
            cases cm with
            | none => exact absurd hm (by simp)
            | some mc =>
              obtain ⟨L', hb', hL'⟩ := hm
              obtain ⟨ces, hc', he⟩ := hr.ents hb' hmo
              rw [hL'] at hc'
              have hfl : (ces.filter fun e => !cs.contains e.born) = #[] := by
                have := he.filter (fun n => !seen.contains n)
                rw [hleft] at this
                have := this.nil_inv
                apply Array.ext'
                rw [Array.toList_filter]
                rw [← hs] at this
                simpa using this
              refine ⟨_, ρ, w, ?_, Grow.refl _ _ _ _, hr, one⟩
              rw [hd]
              have hg := hgone cs ces ρ hs he
              simp only [Instr.next, Sem.run_bind, getObj, Sem.run, hc, hc', Result.andThen_ok, Nat.add_zero, hg, hfl, Bool.false_eq_true, if_false]
              simp [Question.forced]
        | cons y ys =>
          rw [hleft] at h3
          cases ys with
          | cons _ _ => obtain ⟨_, _, _⟩ := y; cases h3
          | nil =>
            obtain ⟨ky, v, n⟩ := y
            have h3 : ifB (Nat.ble (Nat.succ n) since) (H.put b (.iter (some mb) since (n :: seen) clock) fun H => kv (.z (.tuple [.tt, ky, v])) H) 457 = 1 := h3
            obtain ⟨hlt, h4⟩ := ifB_true h3 (by decide)
            have hlt : n < since := Nat.le_of_ble_eq_true hlt
            obtain ⟨H', h5, hn, hff⟩ := Heap.put_one h4
            refine ⟨_, H', h5, fun w ρ cx hr _ rx => ?_⟩
            cases rx with
            | @p _ _ L hb =>
              obtain ⟨hd, cm, cs, hc, hs, hm⟩ := hr.obj b _ _ hb hob
              cases cm with
              | none => exact absurd hm (by simp)
              | some mc =>
                obtain ⟨L', hb', hL'⟩ := hm
                obtain ⟨ces, hc', he⟩ := hr.ents hb' hmo
                rw [hL'] at hc'
                have hfe := he.filter (fun n => !seen.contains n)
                rw [hleft] at hfe
                obtain ⟨ce, cl, hcl, hent, hnil⟩ := hfe.uncons
                rw [hnil.nil_inv] at hcl
                have hfl : (ces.filter fun e => !cs.contains e.born) = #[ce] := by
                  apply Array.ext'
                  rw [Array.toList_filter]
                  rw [← hs] at hcl
                  simpa using hcl
                obtain ⟨e1, e2, e3⟩ := setObj_iter (P := P) hc (.mapIter (some mc) since (cs.push ce.born) clock)
                have hO : ObjRel ρ { w with heap := w.heap.setIfInBounds L.c (.mapIter (some mc) since (cs.push ce.born) clock) } L (.iter (some mb) since (n :: seen) clock) :=
                  ⟨hd, some mc, cs.push ce.born, e3, by rw [Array.toList_push, List.reverse_append, hs, hent.2.2]; rfl, L', hb', hL'⟩
                obtain ⟨q1, q2⟩ := hr.put hb hob (by intro x; cases x) e2 hff hO
                refine ⟨.tuple #[.bool true, ce.key, ce.val], ρ, _, ?_, by rw [hn]; exact q2 _, q1, .tupleL (.cons .tt (.cons hent.1 (.cons hent.2.1 .nil)))⟩
                have hg := hgone cs ces ρ hs he
                have hbn : ce.born = n := hent.2.2
                have f1 : (#[ce].filter fun e => decide (e.born < since)) = #[ce] := by simp [hbn, hlt]
                have f2 : (#[ce].filter fun e => decide (e.born ≥ since)) = #[] := by simp [hbn]; omega
                rw [hd]
                have hgo : (getObj L.c).run P w = .ok (.mapIter (some mc) since cs stepped) w := by simp [getObj, Sem.run, hc]
                have hgm : (getObj mc).run P w = .ok (.map ces clock) w := run_getMap hc'
                simp only [Instr.next, Sem.run_bind, hgo, hgm, Result.andThen_ok, Nat.add_zero, hg, hfl, f1, f2, Bool.false_eq_true, if_false]
                simp [Question.forced, e1]
  · cases h_1

theorem pEntry_ok {gl : Fixed} {x : AVal} {H : Heap} {kv : KP} (h : pEntry x H kv = 1) : ∃ v, kv v = 1 ∧ Reads P gl H Instr.entry x v := by
  rcases onPtr_one h with ⟨b, o, rfl, h_1⟩ | ⟨g, o, rfl, h_1⟩
  · obtain ⟨ho, h_2⟩ := ifB_true h_1 (by decide)
    have ho := Nat.eq_of_beq_eq_true ho
    subst ho
    obtain ⟨ob, hob, h_3⟩ := Heap.get_one h_2
    obtain ⟨m, since, seen, stepped, rfl, h_4⟩ := onIter_one h_3
    cases m with
    | none => cases h_4
    | some mb =>
      have h0 : H.get mb (fun mo => onMapO mo fun es clock =>
        ifB (Nat.beq clock stepped) (List.rec 406 (fun s _ _ =>
          List.rec 407 (fun x _ ih => MEnt.rec (fun ky v n => ifB (Nat.beq n s) (kv (.z (.tuple [ky, v]))) ih) x) es) seen) 408) = 1 := h_4
      obtain ⟨mo, hmo, h1⟩ := Heap.get_one h0
      obtain ⟨es, clock, rfl, h2⟩ := onMapO_one h1
      obtain ⟨hck, h3⟩ := ifB_true h2 (by decide)
      have hck := Nat.eq_of_beq_eq_true hck
      subst hck
      cases seen with
      | nil => cases h3
      | cons s seen =>
        have key : ∀ (es : List MEnt), (List.rec 407 (fun x _ ih => MEnt.rec (fun ky v n => ifB (Nat.beq n s) (kv (.z (.tuple [ky, v]))) ih) x) es : Nat) = 1 →
            ∃ e, es.find? (fun e => e.born == s) = some e ∧ kv (.z (.tuple [e.key, e.val])) = 1 := by
          intro es
          induction es with
          | nil => intro h_4; cases h_4
          | cons x es ih =>
            intro h_4
            obtain ⟨ky, v, n⟩ := x
            have h_4 : ifB (Nat.beq n s) (kv (.z (.tuple [ky, v]))) (List.rec 407 (fun x _ ih => MEnt.rec (fun ky v n => ifB (Nat.beq n s) (kv (.z (.tuple [ky, v]))) ih) x) es) = 1 := h_4
            rcases ifB_one h_4 with ⟨e, h_5⟩ | ⟨e, h_5⟩
            · have e := Nat.eq_of_beq_eq_true e
              subst e
              exact ⟨⟨ky, v, n⟩, by simp, h_5⟩
            · obtain ⟨e', h1, h2⟩ := ih h_5
              refine ⟨e', ?_, h2⟩
              have : (n == s) = false := by
                rw [← Bool.not_eq_true, beq_iff_eq]
                intro q; subst q
                rw [show Nat.beq n n = true from Nat.beq_refl n] at e; cases e
              simp [List.find?_cons, this, h1]
        obtain ⟨e, hfe, h4⟩ := key es h3
        refine ⟨_, h4, fun w ρ cx hr rx => ?_⟩
        cases rx with
        | @p _ _ L hb =>
          obtain ⟨hd, cm, cs, hc, hs, hm⟩ := hr.obj b _ _ hb hob
          cases cm with
          | none => exact absurd hm (by simp)
          | some mc =>
            obtain ⟨L', hb', hL'⟩ := hm
            obtain ⟨ces, hc', he⟩ := hr.ents hb' hmo
            rw [hL'] at hc'
            have hback : cs.back? = some s := by
              have : cs.toList.getLast? = some s := by
                have := congrArg List.head? hs
                simpa using this
              rw [← Array.getLast?_toList]
              exact this
            have hfc : ∃ c, ces.find? (fun c => c.born == s) = some c ∧ entRel ρ e c := by
              have : ∀ (es : List MEnt) (ces : List MapEntry), EntsRel ρ es ces → es.find? (fun e => e.born == s) = some e → ∃ c, ces.find? (fun c => c.born == s) = some c ∧ entRel ρ e c := by
                intro es
                induction es with
                | nil => intro ces _ h_4; cases h_4
                | cons x es ih =>
                  intro ces h_4 hf
                  obtain ⟨c, cl, rfl, hx, h_6⟩ := h_4.uncons
                  rw [List.find?_cons] at hf ⊢
                  rw [hx.2.2]
                  split at hf
                  · rename_i g; injection hf with hf; subst hf; exact ⟨c, rfl, hx⟩
                  · rename_i g; exact ih cl h_6 hf
              obtain ⟨c, h1, h2⟩ := this es ces.toList he hfe
              exact ⟨c, by rw [← Array.find?_toList]; exact h1, h2⟩
            obtain ⟨c, hfc, hent⟩ := hfc
            refine ⟨.tuple #[c.key, c.val], ?_, .tupleL (.cons hent.1 (.cons hent.2.1 .nil))⟩
            have hgo : (getObj L.c).run P w = .ok (.mapIter (some mc) since cs clock) w := by simp [getObj, Sem.run, hc]
            have hgm : (getObj mc).run P w = .ok (.map ces clock) w := run_getMap hc'
            rw [hd]
            simp [Instr.entry, Sem.run_bind, hgo, hgm, hback, hfc]
  · cases h_1

end Go.Proofs.YtmgigdklcaepdaaGreatDoor.Ax
end

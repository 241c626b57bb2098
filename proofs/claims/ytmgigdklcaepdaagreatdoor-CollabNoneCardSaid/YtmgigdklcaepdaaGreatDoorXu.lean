/-
  Regions. · Code.
-/
import Derived.Test.YtmgigdklcaepdaaGreatDoorXt
import Derived.LoopN
set_option linter.unusedVariables false
set_option linter.unusedSimpArgs false
section
namespace Go.Proofs.YtmgigdklcaepdaaGreatDoor.Ax
set_option linter.unusedVariables false
set_option linter.unusedSimpArgs false

variable {P : Program} {T : Tab}

theorem Inv.start {gl : Fixed} {ops : Array Oper} {nt : Nat} {sc0 : Sc} {H0 : Heap} {n : Nat} {t : Tr} {s : Wk} (g : Good P gl ops nt sc0 H0 n t s) {ρ : Ren} {a : Act} {w : World} (st : Stand gl nt sc0 H0 ρ a w) :
    ∃ nx, Inv P gl ops nt sc0 H0 n t ρ w (fun _ => False) nx a w ρ := by
  obtain ⟨nx, h1, h2, h3, h4⟩ := next_act t n _ 0 (Nat.zero_le _) rfl
  have hR : ∀ j, t.R (fun _ => False) ρ j = ρ := by
    intro j
    funext b
    cases hb : ρ b with
    | some L => exact R_some.mpr ⟨hb, fun k q => q.elim⟩
    | none =>
      cases hx : t.R (fun _ => False) ρ j b with
      | none => rfl
      | some L => rw [R_some, hb] at hx; cases hx.1
  have hle : H0.next ≤ (t.hp nx).next := by have := g.le (i := 0) (j := nx) (by omega) h2; rw [g.h0] at this; exact this
  have hseg : ∀ b L, ρ b = some L → (t.hp nx).f b = H0.f b := by
    intro b L hb
    rw [← g.h0]
    refine g.seg (Nat.zero_le _) h2 (fun p _ q => h4 p (Nat.zero_le _) q) b fun k _ hk hn e => ?_
    have : H0.next ≤ (t.hp k).next := by have := g.le (i := 0) (j := k) (by omega) (by omega); rw [g.h0] at this; exact this
    rw [st.dom b (by omega)] at hb; cases hb
  refine ⟨nx, (fun i h => h.elim), (fun i h => h.elim), h2, h3, id, fun j hj ha => absurd ha (h4 j (Nat.zero_le _) hj), ?_, ?_, ?_, (fun k ob h => h.elim), (fun k k' L L' h => h.elim), ?_, (fun k h => h.elim), fun d v hv _ => ?_, st.sz, st.df⟩
  · rw [hR]; exact st.hr.less fun b L o hb ho _ => by rw [← hseg b L hb]; exact ho
  · rw [hR]; exact fun b hb => st.dom b (by omega)
  · intro k hk hn _
    have : H0.next ≤ (t.hp k).next := by have := g.le (i := 0) (j := k) (by omega) (by omega); rw [g.h0] at this; exact this
    exact st.dom _ this
  · rw [hR]
    exact ⟨Ren.le_refl _, hle, (fun b L h h' => by rw [h'] at h; cases h), (fun b L hb ⟨x, hx, hd⟩ => ⟨x, by rw [← hseg b L hb]; exact hx, hd⟩), fun _ _ _ => rfl, Nat.le_refl _, rfl, rfl, rfl⟩
  · rw [hR]; exact st.tr d v hv

theorem Inv.finish {gl : Fixed} {ops : Array Oper} {nt : Nat} {sc0 : Sc} {H0 : Heap} {n : Nat} {t : Tr} {s : Wk} (g : Good P gl ops nt sc0 H0 n t s) {ρ0 ρ : Ren} {w0 w : World} {S : Nat → Prop} {nx : Nat} {a : Act} (iv : Inv P gl ops nt sc0 H0 n t ρ0 w0 S nx a w ρ) (hall : ∀ i, i < n → S i) :
    ∃ ρ', Grow H0.f ρ0 w0 H0.next s.H.f ρ' w s.H.next ∧ Stand gl nt s.sc s.H ρ' a w := by
  have hnx : nx = n := by
    rcases Nat.lt_or_ge nx n with h | h
    · exact (iv.nx_not (hall nx h)).elim
    · have := iv.nx_le; omega
  subst hnx
  refine ⟨t.R S ρ nx, by rw [g.hn]; exact iv.grow, by rw [g.hn]; exact iv.hr, by rw [g.hn]; exact iv.dom, fun d v hv => ?_, iv.sz, iv.df⟩
  rw [g.sn] at hv
  rcases g.scope (Nat.le_refl _) hv with ⟨i, hi, o, q1, q2, q3, q4, q5⟩ | ⟨q1, q2⟩
  · obtain ⟨cv, e1, e2⟩ := iv.tmp i (hall i hi) o q1 d q2 q3 (fun j hj hij o' ho' => q5 j hij (iv.lt j hj) o' ho')
    exact ⟨cv, e1, by rw [q4]; rw [show max i nx = nx by omega] at e2; exact e2⟩
  · exact iv.tmp0 d v q1 (fun j hj o' ho' => q2 j (iv.lt j hj) o' ho')

theorem wpAny_ok {gl : Fixed} {ops : Array Oper} {nt : Nat} {sc0 : Sc} {H0 : Heap} {t : Tr} {s : Wk} (g : Good P gl ops nt sc0 H0 ops.size t s) {ρ0 : Ren} {w0 : World} (hgl : ∀ x o, (x, o) ∈ gl → x < w0.heap.size) {Q : Exit → Act → World → Prop}
    (hQ : ∀ a ρ w, Grow H0.f ρ0 w0 H0.next s.H.f ρ w s.H.next → Stand gl nt s.sc s.H ρ a w → Q .normal a w) :
    ∀ (fuel : Nat) (listed : Array Bool) (a : Act) (w : World) (ρ : Ren) (nx : Nat), listed.size = ops.size → listed.toList.count false = fuel → Inv P gl ops nt sc0 H0 ops.size t ρ0 w0 (fun i => listed.getD i false = true) nx a w ρ → wpAny P .any ops Q fuel listed a w := by
  have fin : ∀ (listed : Array Bool) (a : Act) (w : World) (ρ : Ren) (nx : Nat), (∀ i, i < ops.size → listed.getD i false = true) → Inv P gl ops nt sc0 H0 ops.size t ρ0 w0 (fun i => listed.getD i false = true) nx a w ρ → Q .normal a w := by
    intro listed a w ρ nx hall iv
    obtain ⟨ρ', h1, h2⟩ := iv.finish g hall
    exact hQ a ρ' w h1 h2
  intro fuel
  induction fuel with
  | zero =>
    intro listed a w ρ nx hsz hc iv
    have hall : ∀ i, i < ops.size → listed.getD i false = true := by
      intro i hi
      have hi' : i < listed.size := by omega
      have hm : listed[i] ∈ listed.toList := by simp
      cases hb : listed[i] with
      | true => simp [hi', hb]
      | false =>
        rw [hb] at hm
        exact absurd hm (List.count_eq_zero.mp hc)
    refine ⟨?_, fin listed a w ρ nx hall iv⟩
    cases hr : Region.ready .any ops listed with
    | nil => rfl
    | cons j l =>
      have hj : j ∈ Region.ready .any ops listed := by rw [hr]; exact List.mem_cons_self
      rw [mem_ready] at hj
      obtain ⟨h0, o, ho, _⟩ := hj
      have hlt : j < ops.size := (Array.getElem?_eq_some_iff.1 ho).1
      have h1 := hall j hlt
      have hj' : j < listed.size := by omega
      simp [hj'] at h0 h1
      rw [h0] at h1; cases h1
  | succ fuel ih =>
    intro listed a w ρ nx hsz hc iv
    refine ⟨fun hr => fin listed a w ρ nx ?_ iv, fun i hi => ?_⟩
    · -- none may come: all have come
      have key : ∀ m i, i < m → i < ops.size → listed.getD i false = true := by
        intro m
        induction m with
        | zero => intro i h; omega
        | succ m ihm =>
          intro i h1 h2
          cases hb : listed.getD i false with
          | true => rfl
          | false =>
            have hmem : i ∈ Region.ready .any ops listed := by
              obtain ⟨o, ho, he, _⟩ := g.op i h2
              refine mem_ready.mpr ⟨?_, o, ho, fun e hem hbd => ?_⟩
              · have hi' : i < listed.size := by omega
                simp [hi'] at hb ⊢; exact hb
              · have := List.all_eq_true.mp he e (by simpa using hem)
                rw [hbd] at this
                have := Nat.le_of_ble_eq_true (by simpa using this)
                exact ihm e.on (by omega) (by omega)
            rw [hr] at hmem; cases hmem
      exact fun i hi => key (i + 1) i (by omega) hi
    · obtain ⟨h0, o, ho, hall⟩ := mem_ready.mp hi
      have hlt : i < ops.size := (Array.getElem?_eq_some_iff.1 ho).1
      have hi' : i < listed.size := by omega
      have hfalse : listed[i] = false := by simpa [hi'] using h0
      have hS : ¬ (listed.getD i false = true) := by simp [hi', hfalse]
      refine iv.step g hgl hlt hS (fun o' ho' e he hb => ?_) fun a' w' nx' ρ' iv' => ih _ a' w' ρ' nx' (by simpa using hsz) ?_ ?_
      · rw [ho] at ho'; injection ho' with ho'; subst ho'
        exact hall e (by simpa using he) hb
      · have h1 : (listed.setIfInBounds i true).toList = listed.toList.set i true := by simp
        rw [h1, List.count_set (by simpa using hi')]
        have h2 : listed.toList[i]'(by simpa using hi') = false := by simpa using hfalse
        rw [h2, hc]
        simp
      · have : (fun j => (listed.setIfInBounds i true).getD j false = true) = (fun j => listed.getD j false = true ∨ j = i) := by
          funext j
          apply propext
          by_cases e : j = i
          · subst e; simp [hi']
          · have : i ≠ j := fun q => e q.symm
            simp [Array.getElem?_setIfInBounds_ne this, e]
        rw [this]
        exact iv'

/-- A region whose order is open, its operations in a given order. -/
noncomputable def denRegT (T : Tab) (G : Glob) (nt : Nat) (rec : Rec) (ops : Array Oper) (sc : Sc) (H : Heap) (k : Sc → Heap → Nat) : Nat :=
  match drawOk ops with
    | true => denDrawC T G ops nt rec k (List.range' 0 ops.size) [] [] [] [H] sc H
    | false => fail
noncomputable def denReg (T : Tab) (G : Glob) (nt : Nat) (rec : Rec) (ops : Array Oper) (draw : Bool) (sc : Sc) (H : Heap) (k : Sc → Heap → Nat) : Nat :=
  match draw with
  | false => denOps T G ops nt rec (List.range ops.size) sc H k
  | true => match ops.toList.any isMk with
    | false => denRegT T G nt rec ops sc H k
    | true => match permB ops.size (lateOrder ops) with
      | true => denRegT T G nt rec (permOps (lateOrder ops) ops) sc H k
      | false => fail

theorem denRegT_ok {gl : Fixed} {G : Glob} (hG : GOk gl G) (hT : TabOk P T) {nt : Nat} {rec : Rec} (hrec : RecOk P gl rec) {ops : Array Oper} {sc : Sc} {H : Heap} {k : Sc → Heap → Nat} (h : denRegT T G nt rec ops sc H k = 1) :
    ∃ sc' H', k sc' H' = 1 ∧ ∀ w ρ a, Stand gl nt sc H ρ a w → ∀ Q : Exit → Act → World → Prop, (∀ a' ρ' w', Grow H.f ρ w H.next H'.f ρ' w' H'.next → Stand gl nt sc' H' ρ' a' w' → Q .normal a' w') → wpAny P .any ops Q ops.size (Array.replicate ops.size false) a { w with drawn := w.drawn + 1 } := by
    have h : (match drawOk ops with | true => denDrawC T G ops nt rec k (List.range' 0 ops.size) [] [] [] [H] sc H | false => fail) = 1 := h
    split at h
    case h_2 => cases h
    rename_i hst
    have h : denDraw T G ops nt rec k (List.range' 0 ops.size) ⟨[], [], [], [H], sc, H⟩ = 1 := h
    have g0 : Good P gl ops nt sc H 0 ⟨fun _ => H, fun _ => sc, fun _ => .undef, fun _ => .pure, fun _ => 0⟩ ⟨[], [], [], [H], sc, H⟩ :=
      ⟨rfl, rfl, rfl, rfl, fun i hi => absurd hi (Nat.not_lt_zero i), fun i hi => absurd hi (Nat.not_lt_zero i), fun i hi => absurd hi (Nat.not_lt_zero i), fun i hi => absurd hi (Nat.not_lt_zero i), fun i hi => absurd hi (Nat.not_lt_zero i), fun i _ j _ hj => absurd hj (Nat.not_lt_zero j), fun i hi => absurd hi (Nat.not_lt_zero i), fun i hi => absurd hi (Nat.not_lt_zero i), fun i hi => absurd hi (Nat.not_lt_zero i), fun x hx => absurd hx List.not_mem_nil, fun i hi => absurd hi (Nat.not_lt_zero i), fun i hi => absurd hi (Nat.not_lt_zero i), fun j hj => List.mem_cons_self⟩
    obtain ⟨t, s', g, h1⟩ := denDraw_one hG hT hst hrec ops.size 0 g0 h
    rw [Nat.zero_add] at g
    refine ⟨s'.sc, s'.H, h1, fun w ρ a st Q hQ => ?_⟩
    have st' : Stand gl nt sc H ρ a { w with drawn := w.drawn + 1 } := ⟨st.hr.heapEq rfl, st.dom, st.tr, st.sz, st.df⟩
    obtain ⟨nx, iv⟩ := Inv.start g st'
    refine wpAny_ok g (ρ0 := ρ) (w0 := { w with drawn := w.drawn + 1 }) (fun x o hx => (Array.getElem?_eq_some_iff.mp (st'.hr.fixd x o hx).1).1) (fun a' ρ' w' gr st2 => hQ a' ρ' w' ((Grow.heapEq H.f ρ w { w with drawn := w.drawn + 1 } H.next rfl rfl rfl rfl).trans gr) st2) ops.size _ a _ ρ nx (by simp) (by simp) ?_
    have : (fun i => (Array.replicate ops.size false).getD i false = true) = fun _ => False := by
      funext i
      apply propext
      by_cases hi : i < ops.size <;> simp [hi]
    rw [this]
    exact iv

theorem denReg_ok {gl : Fixed} {G : Glob} (hG : GOk gl G) (hT : TabOk P T) (hM : P.follows .mixedOrders = true) {nt : Nat} {rec : Rec} (hrec : RecOk P gl rec) {ops : Array Oper} {draw : Bool} {sc : Sc} {H : Heap} {k : Sc → Heap → Nat} (h : denReg T G nt rec ops draw sc H k = 1) (id : Nat) :
    ∃ sc' H', k sc' H' = 1 ∧ ∀ w ρ a, Stand gl nt sc H ρ a w → ∀ Q : Exit → Act → World → Prop, (∀ a' ρ' w', Grow H.f ρ w H.next H'.f ρ' w' H'.next → Stand gl nt sc' H' ρ' a' w' → Q .normal a' w') → (Code.region id ops draw).wp P Q a w := by
  cases draw with
  | false =>
    obtain ⟨sc', H', h1, h2⟩ := denOps_ok hG hT hrec _ (show denOps T G ops nt rec (List.range ops.size) sc H k = 1 from h)
    exact ⟨sc', H', h1, fun w ρ a st Q hQ => wp_region (h2 w ρ a st Q hQ)⟩
  | true =>
    have h : (match ops.toList.any isMk with
      | false => denRegT T G nt rec ops sc H k
      | true => match permB ops.size (lateOrder ops) with
        | true => denRegT T G nt rec (permOps (lateOrder ops) ops) sc H k
        | false => fail) = 1 := h
    split at h
    · obtain ⟨sc', H', h1, h2⟩ := denRegT_ok hG hT hrec h
      exact ⟨sc', H', h1, fun w ρ a st Q hQ => wp_region_any hM (h2 w ρ a st Q hQ)⟩
    · split at h
      case h_2 => cases h
      rename_i hp
      have hp := isPerm_of hp
      obtain ⟨sc', H', h1, h2⟩ := denRegT_ok hG hT hrec h
      refine ⟨sc', H', h1, fun w ρ a st Q hQ => wp_region_any hM ?_⟩
      have h3 := h2 w ρ a st Q hQ
      rw [hp.size] at h3
      refine wpAny_perm hp _ _ _ _ _ (by simp) (by simp) (fun i hi => ?_) h3
      obtain ⟨r1, _⟩ := hp.put i hi
      simp [Array.getD, hi, r1]

end Go.Proofs.YtmgigdklcaepdaaGreatDoor.Ax
end
section
namespace Go.Proofs.YtmgigdklcaepdaaGreatDoor.Ax
set_option linter.unusedVariables false
set_option linter.unusedSimpArgs false

variable {P : Program} {T : Tab}

noncomputable def lamN (n : Nat) : (List AVal → Heap → Nat) → S n := Nat.rec (motive := fun n => (List AVal → Heap → Nat) → S n) (fun f H => f [] H) (fun _ ih f v => ih fun vs => f (v :: vs)) n
noncomputable def appN (n : Nat) : S n → List AVal → Heap → Nat := Nat.rec (motive := fun n => S n → List AVal → Heap → Nat) (fun g _ => g) (fun _ ih g vs => List.rec (motive := fun _ => Heap → Nat) (fun _ => 492) (fun v vs _ => ih (g v) vs) vs) n
theorem appN_lamN : ∀ (n : Nat) (f : List AVal → Heap → Nat) (vs : List AVal), vs.length = n → appN n (lamN n f) vs = f vs
  | 0, f, [], _ => rfl
  | n + 1, f, v :: vs, h => appN_lamN n (fun vs => f (v :: vs)) vs (by simpa using h)
theorem appN_dead : ∀ (n : Nat) (vs : List AVal) (H : Heap), appN n (dead n) vs H ≠ 1
  | 0, vs, H => by show (492 : Nat) ≠ 1; decide
  | n + 1, v :: vs, H => appN_dead n vs H
  | n + 1, [], H => by show (492 : Nat) ≠ 1; decide

def scOf : List Nat → List AVal → Sc
  | p :: ps, v :: vs => (p, v) :: scOf ps vs
  | _, _ => []
def lookL (sc : Sc) : List Nat → Option (List AVal)
  | [] => some []
  | p :: ps => match sc.get p, lookL sc ps with | some v, some vs => some (v :: vs) | _, _ => none
theorem lookL_len {sc : Sc} : ∀ {ps : List Nat} {vs : List AVal}, lookL sc ps = some vs → vs.length = ps.length
  | [], vs, h => by simp [lookL] at h; subst h; rfl
  | p :: ps, vs, h => by
    unfold lookL at h
    split at h
    · rename_i v l h1 h2
      injection h with h; subst h
      simp [lookL_len h2]
    · cases h
theorem lookL_rel {sc : Sc} {ρ : Ren} {tmps : Array Value} (ht : TRel ρ sc tmps) : ∀ {ps : List Nat} {vs : List AVal}, lookL sc ps = some vs → TRel ρ (scOf ps vs) tmps
  | [], vs, h => by simp [lookL] at h; subst h; intro t v hv; cases hv
  | p :: ps, vs, h => by
    unfold lookL at h
    split at h
    · rename_i v l h1 h2
      injection h with h; subst h
      intro t u hu
      have hu : (if p = t then some v else Sc.get (scOf ps l) t) = some u := hu
      by_cases e : p = t
      · rw [if_pos e] at hu; injection hu with hu; subst hu e; exact ht p v h1
      · rw [if_neg e] at hu; exact lookL_rel ht h2 t u hu
    · cases h

/-- Does a region write a temporary? -/
def writes (ops : Array Oper) (t : Nat) : Bool := ops.toList.any fun o => match o.dst with | some d => Nat.beq d t | none => false

/-- A region, then on. -/
noncomputable def regD (T : Tab) (G : Glob) (ps : List Nat) (nt : Nat) (ops : Array Oper) (d : Bool) (rec : Rec) (k : S ps.length) : S ps.length :=
  lamN ps.length fun vs H => denReg T G nt rec ops d (scOf ps vs) H fun sc H => match lookL sc ps with | some vs => appN ps.length k vs H | none => fail
noncomputable def ifD (T : Tab) (G : Glob) (ps : List Nat) (nt : Nat) (ops : Array Oper) (d : Bool) (t : Nat) (rec : Rec) (ka kb : S ps.length) : S ps.length :=
  lamN ps.length fun vs H => denReg T G nt rec ops d (scOf ps vs) H fun sc H => match sc.get t, lookL sc ps with | some c, some vs => onBool c (appN ps.length ka vs H) (appN ps.length kb vs H) | _, _ => fail
noncomputable def condD (ps : List Nat) (x : Operand) (ka kb : S ps.length) : S ps.length :=
  lamN ps.length fun vs H => match opd (scOf ps vs) x with | some c => onBool c (appN ps.length ka vs H) (appN ps.length kb vs H) | none => fail

noncomputable def denCode (T : Tab) (G : Glob) (ps : List Nat) (nt : Nat) : Code → CodeD (S ps.length)
  | .skip => cSkip
  | .label _ => cSkip
  | .region _ ops d => cReg fun rec k => regD T G ps nt ops d rec k
  | .seq (.region i ops d) (.seq (.cond (.tmp t) a b) r) => match writes ops t with
    | true => cSeq (cIf (fun rec ka kb => ifD T G ps nt ops d t rec ka kb) (denCode T G ps nt a) (denCode T G ps nt b)) (denCode T G ps nt r)
    | false => cSeq (denCode T G ps nt (.region i ops d)) (denCode T G ps nt (.seq (.cond (.tmp t) a b) r))
  | .seq (.region i ops d) (.cond (.tmp t) a b) => match writes ops t with
    | true => cIf (fun rec ka kb => ifD T G ps nt ops d t rec ka kb) (denCode T G ps nt a) (denCode T G ps nt b)
    | false => cSeq (denCode T G ps nt (.region i ops d)) (denCode T G ps nt (.cond (.tmp t) a b))
  | .seq a b => cSeq (denCode T G ps nt a) (denCode T G ps nt b)
  | .cond x a b => cIf (fun _ ka kb => condD ps x ka kb) (denCode T G ps nt a) (denCode T G ps nt b)
  | .block id a => cBlock id (denCode T G ps nt a)
  | .loop a => cLoop (dead ps.length) (denCode T G ps nt a)
  | .exit id => cExit id
  | .ret => cRet
  | _ => cFail (dead ps.length)

/-- Where a piece of code leaves. -/
def pickE {α : Type} (kn kr : α) (kx : Nat → α) : Exit → Option α
  | .normal => some kn
  | .ret => some kr
  | .exit id => some (kx id)
  | _ => none

/-- What is behind it, of code: at an end e with these values and this heap. -/
def Gets (P : Program) (gl : Fixed) (ps : List Nat) (nt : Nat) (vs : List AVal) (H : Heap) (W : (Exit → Act → World → Prop) → Act → World → Prop) (e : Exit) (vs' : List AVal) (H' : Heap) : Prop :=
  ∀ w ρ a, Stand gl nt (scOf ps vs) H ρ a w → ∀ Q : Exit → Act → World → Prop, (∀ a' ρ' w', Grow H.f ρ w H.next H'.f ρ' w' H'.next → Stand gl nt (scOf ps vs') H' ρ' a' w' → Q e a' w') → W Q a w
def WpOk (P : Program) (gl : Fixed) (ps : List Nat) (nt : Nat) (W : (Exit → Act → World → Prop) → Act → World → Prop) (d : CodeD (S ps.length)) : Prop :=
  ∀ rec, RecOk P gl rec → ∀ kn kr kx vs H, vs.length = ps.length → appN ps.length (d rec kn kr kx) vs H = 1 →
    ∃ e ke vs' H', pickE kn kr kx e = some ke ∧ vs'.length = ps.length ∧ appN ps.length ke vs' H' = 1 ∧ Gets P gl ps nt vs H W e vs' H'
abbrev CodeOk (P : Program) (gl : Fixed) (ps : List Nat) (nt : Nat) (c : Code) (d : CodeD (S ps.length)) : Prop := WpOk P gl ps nt (fun Q a w => c.wp P Q a w) d

variable {gl : Fixed} {ps : List Nat} {nt : Nat} {G : Glob}

theorem Gets.then {vs vs1 vs2 : List AVal} {H H1 H2 : Heap} {W1 W2 W : (Exit → Act → World → Prop) → Act → World → Prop} {e1 e2 : Exit} (h1 : Gets P gl ps nt vs H W1 e1 vs1 H1) (h2 : Gets P gl ps nt vs1 H1 W2 e2 vs2 H2)
    (hW : ∀ Q a w, W1 (fun e a w => e = e1 ∧ W2 Q a w) a w → W Q a w) : Gets P gl ps nt vs H W e2 vs2 H2 := by
  intro w ρ a st Q hQ
  refine hW Q a w (h1 w ρ a st _ fun a1 ρ1 w1 g1 st1 => ⟨rfl, h2 w1 ρ1 a1 st1 Q fun a2 ρ2 w2 g2 st2 => hQ a2 ρ2 w2 (g1.trans g2) st2⟩)
theorem Gets.stay {vs : List AVal} {H : Heap} {W : (Exit → Act → World → Prop) → Act → World → Prop} {e : Exit} (hW : ∀ Q a w, Q e a w → W Q a w) : Gets P gl ps nt vs H W e vs H :=
  fun w ρ a st Q hQ => hW Q a w (hQ a ρ w (.refl _ _ _ _) st)
theorem Gets.mono {vs vs' : List AVal} {H H' : Heap} {W W' : (Exit → Act → World → Prop) → Act → World → Prop} {e e' : Exit} (h : Gets P gl ps nt vs H W e vs' H') (hW : ∀ Q a w, W (fun x a w => x = e ∧ Q e' a w) a w → W' Q a w) : Gets P gl ps nt vs H W' e' vs' H' :=
  fun w ρ a st Q hQ => hW Q a w (h w ρ a st _ fun a' ρ' w' g st' => ⟨rfl, hQ a' ρ' w' g st'⟩)

theorem reg_gets (hG : GOk gl G) (hT : TabOk P T) (hM : P.follows .mixedOrders = true) {rec : Rec} (hrec : RecOk P gl rec) {ops : Array Oper} {d : Bool} {vs : List AVal} {H : Heap} {k : Sc → Heap → Nat} (h : denReg T G nt rec ops d (scOf ps vs) H k = 1) (id : Nat) :
    ∃ sc' H', k sc' H' = 1 ∧ ∀ w ρ a, Stand gl nt (scOf ps vs) H ρ a w → ∀ Q : Exit → Act → World → Prop, (∀ a' ρ' w', Grow H.f ρ w H.next H'.f ρ' w' H'.next → Stand gl nt sc' H' ρ' a' w' → Q .normal a' w') → (Code.region id ops d).wp P Q a w :=
  denReg_ok hG hT hM hrec h id

theorem onBool_cases {v : AVal} {a b : Nat} (h : onBool v a b = 1) : (v = .tt ∧ a = 1) ∨ (v = .ff ∧ b = 1) := onBool_one h

theorem ok_region (hG : GOk gl G) (hT : TabOk P T) (hM : P.follows .mixedOrders = true) (id : Nat) (ops : Array Oper) (d : Bool) : CodeOk P gl ps nt (.region id ops d) (cReg fun rec k => regD T G ps nt ops d rec k) := by
  intro rec hrec kn kr kx vs H hl h
  have h : appN ps.length (regD T G ps nt ops d rec kn) vs H = 1 := h
  unfold regD at h
  rw [appN_lamN _ _ _ hl] at h
  obtain ⟨sc', H', h1, h2⟩ := reg_gets hG hT hM hrec h id
  split at h1
  · rename_i vs' hv
    refine ⟨.normal, kn, vs', H', rfl, lookL_len hv, h1, fun w ρ a st Q hQ => h2 w ρ a st Q fun a' ρ' w' g st' => hQ a' ρ' w' g ⟨st'.hr, st'.dom, lookL_rel st'.tr hv, st'.sz, st'.df⟩⟩
  · cases h1

theorem bool_eval {ρ : Ren} {b : Bool} {cv : Value} (h : VRel ρ (if b then .tt else .ff) cv) : cv = .bool b := by cases b <;> (cases h; rfl)

/-- A choice: one of two ways. -/
theorem ok_cond {x : Operand} {c1 c2 : Code} {d1 d2 : CodeD (S ps.length)} (h1 : CodeOk P gl ps nt c1 d1) (h2 : CodeOk P gl ps nt c2 d2) : CodeOk P gl ps nt (.cond x c1 c2) (cIf (fun _ ka kb => condD ps x ka kb) d1 d2) := by
  intro rec hrec kn kr kx vs H hl h
  have h : appN ps.length (condD ps x (d1 rec kn kr kx) (d2 rec kn kr kx)) vs H = 1 := h
  unfold condD at h
  rw [appN_lamN _ _ _ hl] at h
  split at h
  · rename_i c hc
    rcases onBool_cases h with ⟨e, h⟩ | ⟨e, h⟩
    · obtain ⟨e', ke, vs', H', q1, q2, q3, q4⟩ := h1 rec hrec kn kr kx vs H hl h
      refine ⟨e', ke, vs', H', q1, q2, q3, fun w ρ a st Q hQ => ?_⟩
      have := opd_ok st.tr hc
      rw [e] at this
      exact wp_cond_true (bool_eval (b := true) this) (q4 w ρ a st Q hQ)
    · obtain ⟨e', ke, vs', H', q1, q2, q3, q4⟩ := h2 rec hrec kn kr kx vs H hl h
      refine ⟨e', ke, vs', H', q1, q2, q3, fun w ρ a st Q hQ => ?_⟩
      have := opd_ok st.tr hc
      rw [e] at this
      exact wp_cond_false (bool_eval (b := false) this) (q4 w ρ a st Q hQ)
  · cases h

/-- A region and a choice by what it made. -/
def regIf (P : Program) (id : Nat) (ops : Array Oper) (d : Bool) (t : Nat) (c1 c2 : Code) (Q : Exit → Act → World → Prop) (a : Act) (w : World) : Prop := (Code.region id ops d).wp P (Exit.then ((Code.cond (.tmp t) c1 c2).wp P Q) Q) a w
theorem ok_if (hG : GOk gl G) (hT : TabOk P T) (hM : P.follows .mixedOrders = true) (id : Nat) (ops : Array Oper) (d : Bool) (t : Nat) {c1 c2 : Code} {d1 d2 : CodeD (S ps.length)} (h1 : CodeOk P gl ps nt c1 d1) (h2 : CodeOk P gl ps nt c2 d2) :
    WpOk P gl ps nt (fun Q a w => regIf P id ops d t c1 c2 Q a w) (cIf (fun rec ka kb => ifD T G ps nt ops d t rec ka kb) d1 d2) := by
  intro rec hrec kn kr kx vs H hl h
  have h : appN ps.length (ifD T G ps nt ops d t rec (d1 rec kn kr kx) (d2 rec kn kr kx)) vs H = 1 := h
  unfold ifD at h
  rw [appN_lamN _ _ _ hl] at h
  obtain ⟨sc', H', g1, g2⟩ := reg_gets hG hT hM hrec h id
  split at g1
  · rename_i c vs1 hc hv
    have stand : ∀ {a' ρ' w'}, Stand gl nt sc' H' ρ' a' w' → Stand gl nt (scOf ps vs1) H' ρ' a' w' := fun st' => ⟨st'.hr, st'.dom, lookL_rel st'.tr hv, st'.sz, st'.df⟩
    rcases onBool_cases g1 with ⟨e, g1⟩ | ⟨e, g1⟩
    · obtain ⟨e', ke, vs', H2, q1, q2, q3, q4⟩ := h1 rec hrec kn kr kx vs1 H' (lookL_len hv) g1
      refine ⟨e', ke, vs', H2, q1, q2, q3, fun w ρ a st Q hQ => g2 w ρ a st _ fun a' ρ' w' g st' => ?_⟩
      obtain ⟨cv, r1, r2⟩ := st'.tr t c hc
      rw [e] at r2
      have r2 := bool_eval (b := true) r2
      subst r2
      exact wp_cond_true (by simp [Act.eval, r1]) (q4 w' ρ' a' (stand st') Q fun a2 ρ2 w2 gg st2 => hQ a2 ρ2 w2 (g.trans gg) st2)
    · obtain ⟨e', ke, vs', H2, q1, q2, q3, q4⟩ := h2 rec hrec kn kr kx vs1 H' (lookL_len hv) g1
      refine ⟨e', ke, vs', H2, q1, q2, q3, fun w ρ a st Q hQ => g2 w ρ a st _ fun a' ρ' w' g st' => ?_⟩
      obtain ⟨cv, r1, r2⟩ := st'.tr t c hc
      rw [e] at r2
      have r2 := bool_eval (b := false) r2
      subst r2
      exact wp_cond_false (by simp [Act.eval, r1]) (q4 w' ρ' a' (stand st') Q fun a2 ρ2 w2 gg st2 => hQ a2 ρ2 w2 (g.trans gg) st2)
  · cases g1

/-- One behind the other. -/
theorem ok_seq {W1 W2 W : (Exit → Act → World → Prop) → Act → World → Prop} {d1 d2 : CodeD (S ps.length)} (h1 : WpOk P gl ps nt W1 d1) (h2 : WpOk P gl ps nt W2 d2) (hW : ∀ Q a w, W1 (Exit.then (W2 Q) Q) a w → W Q a w)
    (mono1 : ∀ Q Q' : Exit → Act → World → Prop, (∀ e a w, Q e a w → Q' e a w) → ∀ a w, W1 Q a w → W1 Q' a w) : WpOk P gl ps nt W (cSeq d1 d2) := by
  intro rec hrec kn kr kx vs H hl h
  have h : appN ps.length (d1 rec (d2 rec kn kr kx) kr kx) vs H = 1 := h
  obtain ⟨e, ke, vs1, H1, q1, q2, q3, q4⟩ := h1 rec hrec _ _ _ vs H hl h
  have other : e ≠ .normal → pickE kn kr kx e = some ke → ∃ e ke vs' H', pickE kn kr kx e = some ke ∧ vs'.length = ps.length ∧ appN ps.length ke vs' H' = 1 ∧ Gets P gl ps nt vs H W e vs' H' := fun hne hp =>
    ⟨e, ke, vs1, H1, hp, q2, q3, q4.mono fun Q a w hw => hW Q a w (mono1 _ _ (fun x a w ⟨hx, hq⟩ => by
      subst hx
      cases x <;> first | exact absurd rfl hne | exact hq) a w hw)⟩
  cases e with
  | normal =>
    injection q1 with q1; subst q1
    obtain ⟨e2, ke2, vs2, H2, r1, r2, r3, r4⟩ := h2 rec hrec kn kr kx vs1 H1 q2 q3
    exact ⟨e2, ke2, vs2, H2, r1, r2, r3, q4.then r4 fun Q a w hw => hW Q a w (mono1 _ _ (fun x a w ⟨hx, hq⟩ => by subst hx; exact hq) a w hw)⟩
  | ret => exact other (by simp) q1
  | exit id => exact other (by simp) q1
  | goto l => cases q1
  | panic c => cases q1
  | outgrown => cases q1

theorem code_mono (c : Code) : ∀ Q Q' : Exit → Act → World → Prop, (∀ e a w, Q e a w → Q' e a w) → ∀ a w, c.wp P Q a w → c.wp P Q' a w := fun Q Q' hq a w h => wp_mono h hq
theorem regIf_mono (id : Nat) (ops : Array Oper) (d : Bool) (t : Nat) (c1 c2 : Code) : ∀ Q Q' : Exit → Act → World → Prop, (∀ e a w, Q e a w → Q' e a w) → ∀ a w, regIf P id ops d t c1 c2 Q a w → regIf P id ops d t c1 c2 Q' a w := fun Q Q' hq a w h =>
  wp_mono h fun e a w he => by cases e <;> first | exact wp_mono he hq | exact hq _ _ _ he

theorem ok_block {c : Code} {d : CodeD (S ps.length)} (id : Nat) (h1 : CodeOk P gl ps nt c d) : CodeOk P gl ps nt (.block id c) (cBlock id d) := by
  intro rec hrec kn kr kx vs H hl h
  have h : appN ps.length (d rec kn kr fun j => Bool.rec (kx j) kn (Nat.beq j id)) vs H = 1 := h
  obtain ⟨e, ke, vs1, H1, q1, q2, q3, q4⟩ := h1 rec hrec _ _ _ vs H hl h
  cases e with
  | normal => exact ⟨.normal, ke, vs1, H1, q1, q2, q3, q4.mono fun Q a w hw => wp_block (wp_mono hw fun x a w ⟨hx, hq⟩ => by subst hx; exact hq)⟩
  | ret => exact ⟨.ret, ke, vs1, H1, q1, q2, q3, q4.mono fun Q a w hw => wp_block (wp_mono hw fun x a w ⟨hx, hq⟩ => by subst hx; exact hq)⟩
  | exit j =>
    injection q1 with q1
    by_cases hj : j = id
    · subst hj
      have hb : Nat.beq j j = true := Nat.beq_refl j
      simp only [hb] at q1
      exact ⟨.normal, ke, vs1, H1, by rw [← q1]; rfl, q2, q3, q4.mono fun Q a w hw => wp_block (wp_mono hw fun x a w ⟨hx, hq⟩ => by subst hx; simp only [Exit.inBlock, if_true]; exact hq)⟩
    · have hb : Nat.beq j id = false := by
        cases hb : Nat.beq j id with
        | false => rfl
        | true => exact absurd (Nat.eq_of_beq_eq_true hb) hj
      simp only [hb] at q1
      exact ⟨.exit j, ke, vs1, H1, by rw [← q1]; rfl, q2, q3, q4.mono fun Q a w hw => wp_block (wp_mono hw fun x a w ⟨hx, hq⟩ => by subst hx; simp only [Exit.inBlock, hj, if_false]; exact hq)⟩
  | goto l => cases q1
  | panic c => cases q1
  | outgrown => cases q1

theorem ok_loop {c : Code} {d : CodeD (S ps.length)} (h1 : CodeOk P gl ps nt c d) : CodeOk P gl ps nt (.loop c) (cLoop (dead ps.length) d) := by
  intro rec hrec kn kr kx vs H hl h
  have key : ∀ (m : Nat) (vs : List AVal) (H : Heap), vs.length = ps.length → appN ps.length (Nat.rec (dead ps.length) (fun _ ih => d rec ih kr kx) m) vs H = 1 →
      ∃ e ke vs' H', e ≠ .normal ∧ pickE kn kr kx e = some ke ∧ vs'.length = ps.length ∧ appN ps.length ke vs' H' = 1 ∧ Gets P gl ps nt vs H (fun Q a w => Code.rounds P c Q m a w) e vs' H' := by
    intro m
    induction m with
    | zero => intro vs H hl h; exact absurd h (appN_dead _ _ _)
    | succ m ih =>
      intro vs H hl h
      obtain ⟨e, ke, vs1, H1, q1, q2, q3, q4⟩ := h1 rec hrec _ _ _ vs H hl h
      have other : e ≠ .normal → pickE kn kr kx e = some ke → ∃ e ke vs' H', e ≠ .normal ∧ pickE kn kr kx e = some ke ∧ vs'.length = ps.length ∧ appN ps.length ke vs' H' = 1 ∧ Gets P gl ps nt vs H (fun Q a w => Code.rounds P c Q (m + 1) a w) e vs' H' := fun hne hp =>
        ⟨e, ke, vs1, H1, hne, hp, q2, q3, q4.mono fun Q a w hw => by
          rw [rounds_succ]
          exact wp_mono hw fun x a w ⟨hx, hq⟩ => by
            subst hx
            cases x <;> first | exact absurd rfl hne | exact hq⟩
      cases e with
      | normal =>
        injection q1 with q1; subst q1
        obtain ⟨e2, ke2, vs2, H2, r0, r1, r2, r3, r4⟩ := ih vs1 H1 q2 q3
        exact ⟨e2, ke2, vs2, H2, r0, r1, r2, r3, q4.then r4 fun Q a w hw => by
          rw [rounds_succ]
          exact wp_mono hw fun x a w ⟨hx, hq⟩ => by subst hx; exact hq⟩
      | ret => exact other (by simp) q1
      | exit id => exact other (by simp) q1
      | goto l => cases q1
      | panic c => cases q1
      | outgrown => cases q1
  obtain ⟨e, ke, vs1, H1, _, q1, q2, q3, q4⟩ := key 1000000 vs H hl h
  exact ⟨e, ke, vs1, H1, q1, q2, q3, fun w ρ a st Q hQ => wp_loop_rounds _ (q4 w ρ a st Q hQ)⟩

theorem ok_fail {c : Code} : CodeOk P gl ps nt c (cFail (dead ps.length)) := fun rec hrec kn kr kx vs H hl h => absurd h (appN_dead _ _ _)
theorem ok_skip {c : Code} (hc : ∀ Q a w, Q .normal a w → c.wp P Q a w) : CodeOk P gl ps nt c cSkip := fun rec hrec kn kr kx vs H hl h => ⟨.normal, kn, vs, H, rfl, hl, h, Gets.stay hc⟩
theorem ok_exit (id : Nat) : CodeOk P gl ps nt (.exit id) (cExit id) := fun rec hrec kn kr kx vs H hl h => ⟨.exit id, kx id, vs, H, rfl, hl, h, Gets.stay fun Q a w hq => wp_exit hq⟩
theorem ok_ret : CodeOk P gl ps nt .ret cRet := fun rec hrec kn kr kx vs H hl h => ⟨.ret, kr, vs, H, rfl, hl, h, Gets.stay fun Q a w hq => wp_ret hq⟩

theorem denCode_ok (hG : GOk gl G) (hT : TabOk P T) (hM : P.follows .mixedOrders = true) : ∀ c : Code, CodeOk P gl ps nt c (denCode T G ps nt c) := by
  intro c
  fun_induction denCode T G ps nt c with
  | case1 => exact ok_skip fun Q a w h => wp_skip h
  | case2 l => exact ok_skip fun Q a w h => wp_label h
  | case3 i ops d => exact ok_region hG hT hM i ops d
  | case4 i ops d t a b r hw iha ihb ihr =>
    exact ok_seq (ok_if hG hT hM i ops d t iha ihb) ihr (fun Q a' w h => wp_seq (wp_mono h fun e a w he => by cases e <;> first | exact wp_seq he | exact he)) (regIf_mono i ops d t a b)
  | case5 i ops d t a b r hw ih1 ih2 => exact ok_seq ih1 ih2 (fun Q a w h => wp_seq h) (code_mono _)
  | case6 i ops d t a b hw iha ihb =>
    intro rec hrec kn kr kx vs H hl h
    obtain ⟨e, ke, vs1, H1, q1, q2, q3, q4⟩ := ok_if hG hT hM i ops d t iha ihb rec hrec kn kr kx vs H hl h
    exact ⟨e, ke, vs1, H1, q1, q2, q3, fun w ρ a st Q hQ => wp_seq (q4 w ρ a st Q hQ)⟩
  | case7 i ops d t a b hw ih1 ih2 => exact ok_seq ih1 ih2 (fun Q a w h => wp_seq h) (code_mono _)
  | case8 a b _ _ iha ihb => exact ok_seq iha ihb (fun Q a w h => wp_seq h) (code_mono _)
  | case9 x a b iha ihb => exact ok_cond iha ihb
  | case10 id a ih => exact ok_block id ih
  | case11 a ih => exact ok_loop ih
  | case12 id => exact ok_exit id
  | case13 => exact ok_ret
  | case14 => exact ok_fail

end Go.Proofs.YtmgigdklcaepdaaGreatDoor.Ax
end

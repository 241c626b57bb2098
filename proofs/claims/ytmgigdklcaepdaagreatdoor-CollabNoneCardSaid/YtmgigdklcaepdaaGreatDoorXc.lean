/-
  How abstract values and heaps stand to the model's. · Operations on values alone: each gives what the model's gives. · Texts and bytes as numbers.
-/
import Derived.Test.YtmgigdklcaepdaaGreatDoorXb
import Derived.WalkKit
set_option linter.unusedVariables false
set_option linter.unusedSimpArgs false
section
namespace Go.Proofs.YtmgigdklcaepdaaGreatDoor.Ax
set_option linter.unusedVariables false

/-- Where an abstract block lies: a block, from which cell on, how many cells the block has. -/
structure Loc where
  c : Nat
  d : Nat
  tot : Nat
abbrev Ren := Nat → Option Loc

def bytesOf : Nat → Nat → List UInt8
  | 0, _ => []
  | n + 1, code => UInt8.ofNat (code % 256) :: bytesOf n (code / 256)

def capOk : ACap → Nat → Prop
  | .ex n, c => c = n
  | .ge n, c => n ≤ c
theorem capOk_low {cap : ACap} {c : Nat} (h : capOk cap c) : cap.low ≤ c := by cases cap <;> simp_all [capOk, ACap.low]

inductive VRel (ρ : Ren) : AVal → Value → Prop
  | n (m : Nat) : VRel ρ (.n m) (.int .i64 (.ofNat m))
  | int (k : IntKind) (n : Int) : VRel ρ (.z (.int k n)) (.int k n)
  | tt : VRel ρ .tt (.bool true)
  | ff : VRel ρ .ff (.bool false)
  | p {b o : Nat} {L : Loc} (h : ρ b = some L) : VRel ρ (.p b o) (.pointer (some ⟨L.c, L.d + o, none⟩))
  | sl {b o len esz : Nat} {cap : ACap} {cc : Nat} {L : Loc} (h : ρ b = some L) (hc : capOk cap cc) (hl : len ≤ cc) (h0 : 0 < cc) (ht : L.d + o + cc * esz ≤ L.tot) :
      VRel ρ (.sl b o len esz cap) (.slice (some ⟨L.c, L.d + o, none⟩) len cc)
  | slE {b o esz : Nat} {cap : ACap} {a : Addr} {L : Loc} (h : ρ b = some L) (hc : capOk cap 0) (ht : L.d + o ≤ L.tot) : VRel ρ (.sl b o 0 esz cap) (.slice (some a) 0 0)
  | str {len code : Nat} (h : code < 256 ^ len) : VRel ρ (.str len code) (.string ⟨(bytesOf len code).toArray⟩)
  | ptr0 : VRel ρ (.z (.cst 0)) (.pointer none)
  | sl0 : VRel ρ (.z (.cst 1)) (.slice none 0 0)
  | map0 : VRel ρ (.z (.cst 2)) (.map none)
  | fn0 : VRel ρ (.z (.cst 3)) .nilFunc
  | if0 : VRel ρ (.z (.cst 4)) .nilIface
  | map {b : Nat} {L : Loc} (h : ρ b = some L) : VRel ρ (.z (.map b)) (.map (some L.c))
  | gptr (g o : Nat) : VRel ρ (.z (.gptr g o)) (.pointer (some ⟨g, o, none⟩))
  | agg {cs : List AVal} {vs : Array Value} (hl : cs.length = vs.size) (h : ∀ (i : Nat) (x : AVal) (y : Value), cs[i]? = some x → vs[i]? = some y → VRel ρ x y) (h1 : ∀ y ∈ vs.toList, y.oneCell' = true) : VRel ρ (.z (.agg cs)) (.agg vs)
  | tuple {cs : List AVal} {vs : Array Value} (hl : cs.length = vs.size) (h : ∀ (i : Nat) (x : AVal) (y : Value), cs[i]? = some x → vs[i]? = some y → VRel ρ x y) : VRel ρ (.z (.tuple cs)) (.tuple vs)
  | func {f : Nat} {as cs : List AVal} {va vc : Array Value} (hla : as.length = va.size) (ha : ∀ (i : Nat) (x : AVal) (y : Value), as[i]? = some x → va[i]? = some y → VRel ρ x y)
      (hlc : cs.length = vc.size) (hc : ∀ (i : Nat) (x : AVal) (y : Value), cs[i]? = some x → vc[i]? = some y → VRel ρ x y) : VRel ρ (.z (.func f as cs)) (.func (.func f) va vc)
  | iface {t : Nat} {v : AVal} {cv : Value} (h : VRel ρ v cv) : VRel ρ (.z (.iface t v)) (.iface t cv)

/-- Lists of values. -/
def LRel (ρ : Ren) (cs : List AVal) (vs : List Value) : Prop := cs.length = vs.length ∧ ∀ (i : Nat) (x : AVal) (y : Value), cs[i]? = some x → vs[i]? = some y → VRel ρ x y

def Ren.le (ρ ρ' : Ren) : Prop := ∀ b L, ρ b = some L → ρ' b = some L
theorem Ren.le_refl (ρ : Ren) : ρ.le ρ := fun _ _ h => h
theorem Ren.le_trans {a b c : Ren} (h : a.le b) (k : b.le c) : a.le c := fun _ _ x => k _ _ (h _ _ x)

theorem VRel.mono {ρ ρ' : Ren} (hle : ρ.le ρ') {v : AVal} {cv : Value} (h : VRel ρ v cv) : VRel ρ' v cv := by
  induction h with
  | n m => exact .n m
  | int k n => exact .int k n
  | tt => exact .tt
  | ff => exact .ff
  | p h => exact .p (hle _ _ h)
  | sl h hc hl h0 ht => exact .sl (hle _ _ h) hc hl h0 ht
  | slE h hc ht => exact .slE (hle _ _ h) hc ht
  | str h => exact .str h
  | ptr0 => exact .ptr0
  | sl0 => exact .sl0
  | map0 => exact .map0
  | fn0 => exact .fn0
  | if0 => exact .if0
  | map h => exact .map (hle _ _ h)
  | gptr g o => exact .gptr g o
  | agg hl h h1 ih => exact .agg hl ih h1
  | tuple hl h ih => exact .tuple hl ih
  | func hla ha hlc hc iha ihc => exact .func hla iha hlc ihc
  | iface h ih => exact .iface ih
theorem LRel.mono {ρ ρ' : Ren} (hle : ρ.le ρ') {cs : List AVal} {vs : List Value} (h : LRel ρ cs vs) : LRel ρ' cs vs := ⟨h.1, fun i x y hx hy => (h.2 i x y hx hy).mono hle⟩

/-! lists -/
theorem LRel.nil {ρ : Ren} : LRel ρ [] [] := ⟨rfl, fun i x y h => by simp at h⟩
theorem LRel.cons {ρ : Ren} {v : AVal} {cv : Value} {vs : List AVal} {cvs : List Value} (h : VRel ρ v cv) (hs : LRel ρ vs cvs) : LRel ρ (v :: vs) (cv :: cvs) := by
  refine ⟨by simp [hs.1], fun i x y hx hy => ?_⟩
  cases i with
  | zero => simp at hx hy; subst hx; subst hy; exact h
  | succ i => simp at hx hy; exact hs.2 i x y hx hy
theorem LRel.uncons {ρ : Ren} {v : AVal} {vs : List AVal} {l : List Value} (h : LRel ρ (v :: vs) l) : ∃ cv cvs, l = cv :: cvs ∧ VRel ρ v cv ∧ LRel ρ vs cvs := by
  cases l with
  | nil => have := h.1; simp at this
  | cons cv cvs =>
    refine ⟨cv, cvs, rfl, h.2 0 _ _ rfl rfl, by have := h.1; simpa using this, fun i x y hx hy => h.2 (i + 1) x y (by simpa using hx) (by simpa using hy)⟩
theorem LRel.nil_inv {ρ : Ren} {l : List Value} (h : LRel ρ [] l) : l = [] := by
  have := h.1; cases l <;> simp_all
theorem LRel.append {ρ : Ren} {a b : List AVal} {ca cb : List Value} (h : LRel ρ a ca) (k : LRel ρ b cb) : LRel ρ (a ++ b) (ca ++ cb) := by
  refine ⟨by simp [h.1, k.1], fun i x y hx hy => ?_⟩
  by_cases hi : i < a.length
  · rw [List.getElem?_append_left hi] at hx
    rw [List.getElem?_append_left (by rw [← h.1]; exact hi)] at hy
    exact h.2 i x y hx hy
  · rw [List.getElem?_append_right (by omega)] at hx
    rw [List.getElem?_append_right (by rw [← h.1]; omega), ← h.1] at hy
    exact k.2 _ x y hx hy
theorem LRel.take {ρ : Ren} {a : List AVal} {ca : List Value} (n : Nat) (h : LRel ρ a ca) : LRel ρ (a.take n) (ca.take n) := by
  refine ⟨by simp [h.1], fun i x y hx hy => ?_⟩
  rw [List.getElem?_take] at hx hy
  split at hx
  · rename_i hi; rw [if_pos hi] at hy; exact h.2 i x y hx hy
  · cases hx
theorem LRel.drop {ρ : Ren} {a : List AVal} {ca : List Value} (n : Nat) (h : LRel ρ a ca) : LRel ρ (a.drop n) (ca.drop n) := by
  refine ⟨by simp [h.1], fun i x y hx hy => ?_⟩
  rw [List.getElem?_drop] at hx hy
  exact h.2 _ x y hx hy
theorem LRel.get {ρ : Ren} {a : List AVal} {ca : List Value} {i : Nat} {x : AVal} (h : LRel ρ a ca) (hx : a[i]? = some x) : ∃ y, ca[i]? = some y ∧ VRel ρ x y := by
  have hi : i < a.length := by
    rcases Nat.lt_or_ge i a.length with h | h
    · exact h
    · rw [List.getElem?_eq_none h] at hx; cases hx
  refine ⟨ca[i]'(by rw [← h.1]; exact hi), List.getElem?_eq_getElem _, h.2 i x _ hx (List.getElem?_eq_getElem _)⟩
/-- Values of one cell each. -/
def One (vs : List Value) : Prop := ∀ y ∈ vs, y.oneCell' = true
theorem VRel.aggL {ρ : Ren} {cs : List AVal} {vs : Array Value} (h : LRel ρ cs vs.toList) (h1 : One vs.toList) : VRel ρ (.z (.agg cs)) (.agg vs) :=
  .agg (by simpa using h.1) (fun i x y hx hy => h.2 i x y hx (by simpa using hy)) h1
theorem VRel.tupleL {ρ : Ren} {cs : List AVal} {vs : Array Value} (h : LRel ρ cs vs.toList) : VRel ρ (.z (.tuple cs)) (.tuple vs) :=
  .tuple (by simpa using h.1) fun i x y hx hy => h.2 i x y hx (by simpa using hy)
theorem VRel.agg_inv {ρ : Ren} {cs : List AVal} {cv : Value} (h : VRel ρ (.z (.agg cs)) cv) : ∃ vs : Array Value, cv = .agg vs ∧ LRel ρ cs vs.toList ∧ One vs.toList := by
  cases h with
  | agg hl h h1 => exact ⟨_, rfl, ⟨by simpa using hl, fun i x y hx hy => h i x y hx (by simpa using hy)⟩, h1⟩
theorem VRel.tuple_inv {ρ : Ren} {cs : List AVal} {cv : Value} (h : VRel ρ (.z (.tuple cs)) cv) : ∃ vs : Array Value, cv = .tuple vs ∧ LRel ρ cs vs.toList := by
  cases h with
  | tuple hl h => exact ⟨_, rfl, by simpa using hl, fun i x y hx hy => h i x y hx (by simpa using hy)⟩
theorem VRel.undef {ρ : Ren} : VRel ρ .undef undef := .tupleL .nil

/-! ### heaps -/

/-- A block of cells in the model: its cells, what is frozen of it. -/
def rowAt (w : World) (c : Nat) (arr : Array Value) (fz : Nat → Bool) : Prop :=
  ∃ ty lo hi, w.heap[c]? = some (.cells arr ty (lo, hi)) ∧ ∀ j, fz j = (decide (lo ≤ j) && decide (j < hi))

def entRel (ρ : Ren) (e : MEnt) (c : MapEntry) : Prop := VRel ρ e.key c.key ∧ VRel ρ e.val c.val ∧ c.born = e.born

def ObjRel (ρ : Ren) (w : World) (L : Loc) : AObj → Prop
  | .dead => True
  | .cells esz n wr t => ∃ arr fz, rowAt w L.c arr fz ∧ arr.size = L.tot ∧ L.d + n * esz ≤ L.tot ∧
      (∀ i, i < n → ∃ cs, t.look i = some cs ∧ cs.length = esz ∧ ∀ f v, cs[f]? = some v → ∃ cv, arr[L.d + i * esz + f]? = some cv ∧ VRel ρ v cv ∧ cv.oneCell' = true) ∧
      (∀ j, (if wr then L.d else L.d + n * esz) ≤ j → j < L.tot → fz j = false)
  | .bytes n code wr => ∃ arr fz, rowAt w L.c arr fz ∧ arr.size = L.tot ∧ L.d + n ≤ L.tot ∧ code < 256 ^ n ∧
      (∀ i b, (bytesOf n code)[i]? = some b → arr[L.d + i]? = some (.int .u8 (.ofNat b.toNat))) ∧
      (∀ j, (if wr then L.d else L.d + n) ≤ j → j < L.tot → fz j = false)
  | .map es clock => ∃ ces : Array MapEntry, w.heap[L.c]? = some (.map ces clock) ∧ es.length = ces.size ∧ ∀ (i : Nat) (e : MEnt) (c : MapEntry), es[i]? = some e → ces[i]? = some c → entRel ρ e c
  | .iter m since seen stepped => L.d = 0 ∧ ∃ (cm : Option Nat) (cs : Array Nat), w.heap[L.c]? = some (.mapIter cm since cs stepped) ∧ cs.toList.reverse = seen ∧
      (match m, cm with | none, none => True | some b, some c => ∃ L', ρ b = some L' ∧ L'.c = c | _, _ => False)

abbrev Heap.f (H : Heap) : Nat → Option AObj := H.t.look
/-- It is known what a block is. -/
def live (f : Nat → Option AObj) (b : Nat) : Prop := ∃ o, f b = some o ∧ o ≠ .dead

/-- Blocks of the model that stay as they are. -/
abbrev Fixed := List (Nat × Obj)

structure HR (gl : Fixed) (f : Nat → Option AObj) (ρ : Ren) (w : World) : Prop where
  obj : ∀ b L o, ρ b = some L → f b = some o → ObjRel ρ w L o
  sep : ∀ b b' L L', b ≠ b' → ρ b = some L → ρ b' = some L' → live f b → live f b' → L.c ≠ L'.c
  inn : ∀ b L, ρ b = some L → L.c < w.heap.size
  fixd : ∀ g o, (g, o) ∈ gl → w.heap[g]? = some o ∧ ∀ b L, ρ b = some L → live f b → L.c ≠ g

structure Grow (f : Nat → Option AObj) (ρ : Ren) (w : World) (n : Nat) (f' : Nat → Option AObj) (ρ' : Ren) (w' : World) (n' : Nat) : Prop where
  le : ρ.le ρ'
  nx : n ≤ n'
  new : ∀ b L, ρ' b = some L → ρ b = none → n ≤ b ∧ b < n' ∧ (w.heap.size ≤ L.c ∨ ∃ b' L', ρ b' = some L' ∧ live f b' ∧ L'.c = L.c)
  keep : ∀ b L, ρ b = some L → live f' b → live f b
  same : ∀ c, c < w.heap.size → (∀ b L, ρ b = some L → live f b → L.c ≠ c) → w'.heap[c]? = w.heap[c]?
  size : w.heap.size ≤ w'.heap.size
  tape : w'.tape = w.tape
  os : w'.os = w.os
  out : w'.output = w.output

def Fresh (ρ : Ren) (n n' : Nat) : Prop := ∀ b, n ≤ b → b < n' → ρ b = none

theorem Grow.refl (f : Nat → Option AObj) (ρ : Ren) (w : World) (n : Nat) : Grow f ρ w n f ρ w n :=
  ⟨ρ.le_refl, Nat.le_refl _, (fun b L h h' => by rw [h'] at h; cases h), fun _ _ _ h => h, fun _ _ _ => rfl, Nat.le_refl _, rfl, rfl, rfl⟩

theorem Grow.trans {f f1 f2 : Nat → Option AObj} {ρ ρ1 ρ2 : Ren} {w w1 w2 : World} {n n1 n2 : Nat} (g : Grow f ρ w n f1 ρ1 w1 n1) (k : Grow f1 ρ1 w1 n1 f2 ρ2 w2 n2) :
    Grow f ρ w n f2 ρ2 w2 n2 := by
  refine ⟨Ren.le_trans g.le k.le, Nat.le_trans g.nx k.nx, ?_, ?_, ?_, Nat.le_trans g.size k.size, k.tape.trans g.tape, k.os.trans g.os, k.out.trans g.out⟩
  · intro b L h h0
    cases h1 : ρ1 b with
    | some L1 =>
      have : L1 = L := by have := k.le b L1 h1; rw [h] at this; injection this with e; exact e.symm
      subst this
      obtain ⟨a, c, d⟩ := g.new b L1 h1 h0
      exact ⟨a, Nat.lt_of_lt_of_le c k.nx, d⟩
    | none =>
      obtain ⟨a, c, d⟩ := k.new b L h h1
      refine ⟨Nat.le_trans g.nx a, c, ?_⟩
      rcases d with d | ⟨b', L', h', hl, e⟩
      · exact .inl (Nat.le_trans g.size d)
      · cases h2 : ρ b' with
        | some L2 =>
          have : L2 = L' := by have := g.le b' L2 h2; rw [h'] at this; injection this with e; exact e.symm
          subst this
          exact .inr ⟨b', L2, h2, g.keep b' L2 h2 hl, e⟩
        | none =>
          obtain ⟨_, _, d⟩ := g.new b' L' h' h2
          rw [e] at d
          exact d
  · intro b L h hl
    exact g.keep b L h (k.keep b L (g.le b L h) hl)
  · intro c hc hn
    rw [k.same c (Nat.lt_of_lt_of_le hc g.size), g.same c hc hn]
    intro b L h hl
    cases h0 : ρ b with
    | some L0 =>
      have : L0 = L := by have := g.le b L0 h0; rw [h] at this; injection this with e; exact e.symm
      subst this
      exact hn b L0 h0 (g.keep b L0 h0 hl)
    | none =>
      obtain ⟨_, _, d⟩ := g.new b L h h0
      rcases d with d | ⟨b', L', h', hl', e⟩
      · omega
      · rw [← e]; exact hn b' L' h' hl'

theorem Fresh.left {ρ : Ren} {n n1 n2 : Nat} (h : Fresh ρ n n2) (h2 : n1 ≤ n2) : Fresh ρ n n1 := fun b a c => h b a (Nat.lt_of_lt_of_le c h2)
theorem Grow.fresh {f f1 : Nat → Option AObj} {ρ ρ1 : Ren} {w w1 : World} {n n1 n2 : Nat} (g : Grow f ρ w n f1 ρ1 w1 n1) (h : Fresh ρ n n2) : Fresh ρ1 n1 n2 := by
  intro b a c
  cases hb : ρ1 b with
  | none => rfl
  | some L =>
    have h0 : ρ b = none := h b (Nat.le_trans g.nx a) c
    have := (g.new b L hb h0).2.1
    omega

/-- Of a heap of which less is known. -/
theorem HR.less {gl : Fixed} {f f' : Nat → Option AObj} {ρ : Ren} {w : World} (h : HR gl f ρ w) (hf : ∀ b L o, ρ b = some L → f' b = some o → o ≠ .dead → f b = some o) : HR gl f' ρ w := by
  have hl : ∀ b L, ρ b = some L → live f' b → live f b := fun b L hb ⟨o, ho, hd⟩ => ⟨o, hf b L o hb ho hd, hd⟩
  refine ⟨fun b L o hb ho => ?_, fun b b' L L' hne hb hb' h1 h2 => h.sep b b' L L' hne hb hb' (hl b L hb h1) (hl b' L' hb' h2), h.inn,
    fun g o hg => ⟨(h.fixd g o hg).1, fun b L hb h1 => (h.fixd g o hg).2 b L hb (hl b L hb h1)⟩⟩
  by_cases hd : o = .dead
  · subst hd; exact True.intro
  · exact h.obj b L o hb (hf b L o hb ho hd)

/-- A world that differs in what has been drawn alone. -/
theorem HR.heapEq {gl : Fixed} {f : Nat → Option AObj} {ρ : Ren} {w w' : World} (h : HR gl f ρ w) (e : w'.heap = w.heap) : HR gl f ρ w' := by
  refine ⟨fun b L o hb ho => ?_, h.sep, fun b L hb => by rw [e]; exact h.inn b L hb, fun g o hg => by rw [e]; exact h.fixd g o hg⟩
  have := h.obj b L o hb ho
  cases o <;> simp only [ObjRel, rowAt, e] at this ⊢ <;> exact this
theorem Grow.heapEq (f : Nat → Option AObj) (ρ : Ren) (w w' : World) (n : Nat) (e : w'.heap = w.heap) (ht : w'.tape = w.tape) (ho : w'.os = w.os) (hu : w'.output = w.output) : Grow f ρ w n f ρ w' n :=
  ⟨ρ.le_refl, Nat.le_refl _, (fun b L h h' => by rw [h'] at h; cases h), fun _ _ _ h => h, (fun c _ _ => by rw [e]), (by rw [e]; exact Nat.le_refl _), ht, ho, hu⟩

/-- An object's relation stays where its block does. -/
theorem ObjRel.stay {ρ ρ' : Ren} {w w' : World} {L : Loc} {o : AObj} (h : ObjRel ρ w L o) (hle : ρ.le ρ') (e : w'.heap[L.c]? = w.heap[L.c]?) : ObjRel ρ' w' L o := by
  cases o with
  | dead => exact True.intro
  | cells esz n wr t =>
    obtain ⟨arr, fz, ⟨ty, lo, hi, hb, hf⟩, hs, hn, hc, hz⟩ := h
    refine ⟨arr, fz, ⟨ty, lo, hi, e.trans hb, hf⟩, hs, hn, fun i hi => ?_, hz⟩
    obtain ⟨cs, a, b, c⟩ := hc i hi
    exact ⟨cs, a, b, fun f v hv => let ⟨cv, x, y, z⟩ := c f v hv; ⟨cv, x, y.mono hle, z⟩⟩
  | bytes n code wr =>
    obtain ⟨arr, fz, ⟨ty, lo, hi, hb, hf⟩, hs⟩ := h
    exact ⟨arr, fz, ⟨ty, lo, hi, e.trans hb, hf⟩, hs⟩
  | map es clock =>
    obtain ⟨ces, hb, hl, hc⟩ := h
    exact ⟨ces, e.trans hb, hl, fun i x y hx hy => let ⟨a, b, c⟩ := hc i x y hx hy; ⟨a.mono hle, b.mono hle, c⟩⟩
  | iter m since seen stepped =>
    obtain ⟨hd, cm, cs, hb, hs, hm⟩ := h
    refine ⟨hd, cm, cs, e.trans hb, hs, ?_⟩
    cases m <;> cases cm <;> first | exact hm | exact (let ⟨L', a, b⟩ := hm; ⟨L', hle _ _ a, b⟩)

end Go.Proofs.YtmgigdklcaepdaaGreatDoor.Ax
end
section
namespace Go.Proofs.YtmgigdklcaepdaaGreatDoor.Ax
set_option linter.unusedVariables false
set_option linter.unusedSimpArgs false

theorem int_inv {ρ : Ren} {v : AVal} {cv : Value} {k : IntKind} {n : Int} (h : VRel ρ v cv) (e : AVal.int? v = some (k, n)) : cv = .int k n := by
  cases h <;> simp_all [AVal.int?]
theorem VRel.mkV {ρ : Ren} (k : IntKind) (n : Int) : VRel ρ (mkV k n) (.int k n) := by
  cases k <;> cases n <;> first | exact .n _ | exact .int _ _
theorem VRel.bool {ρ : Ren} (b : Bool) : VRel ρ (if b then .tt else .ff) (.bool b) := by cases b <;> first | exact .tt | exact .ff
theorem kb_eq (b : Bool) (kv : KP) : kb b kv = kv (if b then .tt else .ff) := by cases b <;> rfl
theorem nkb_eq (b : Bool) (kv : KP) : nkb b kv = kv (if !b then .tt else .ff) := by cases b <;> rfl

/-- What is so in all worlds. -/
def Gives1 (s : Value → Sem Value) (x v : AVal) : Prop := ∀ P w ρ cx, VRel ρ x cx → ∃ cv, (s cx).run P w = .ok cv w ∧ VRel ρ v cv
def Gives2 (s : Value → Value → Sem Value) (x y v : AVal) : Prop := ∀ P w ρ cx cy, VRel ρ x cx → VRel ρ y cy → ∃ cv, (s cx cy).run P w = .ok cv w ∧ VRel ρ v cv

theorem int2_one {f : IntKind → Int → Int → Nat} {x y : AVal} (h : int2 f x y = 1) : ∃ k a b, AVal.int? x = some (k, a) ∧ AVal.int? y = some (k, b) ∧ f k a b = 1 := by
  unfold int2 at h
  obtain ⟨k, a, hx, h⟩ := onInt_one h
  obtain ⟨j, b, hy, h⟩ := onInt_one h
  obtain ⟨e, h2⟩ := ifB_true h (by decide)
  have e := eqK_true e
  subst e
  exact ⟨k, a, b, hx, hy, h2⟩

theorem gives_int2 {op : BinOp} {t : TypeId} {x y v : AVal} {k : IntKind} {a b : Int} (hx : AVal.int? x = some (k, a)) (hy : AVal.int? y = some (k, b))
    (hs : ∀ P w ρ, ∃ cv, (binOp op t (.int k a) (.int k b)).run P w = .ok cv w ∧ VRel ρ v cv) : Gives2 (binOp op t) x y v := by
  intro P w ρ cx cy rx ry
  rw [int_inv rx hx, int_inv ry hy]
  exact hs P w ρ

theorem wrap64_small {n : Nat} (h : n ≤ 9223372036854775807) : IntKind.i64.wrap (n : Int) = n := by
  rw [wrap_mod .i64 n (by show n < 18446744073709551616; omega), if_pos (by exact h)]

theorem pAdd_ok {x y : AVal} {kv : KP} (h : pAdd x y kv = 1) (t : TypeId) : ∃ v, kv v = 1 ∧ Gives2 (binOp .add t) x y v := by
  have key : ∃ k a b, AVal.int? x = some (k, a) ∧ AVal.int? y = some (k, b) ∧ kv (mkV k (k.wrap (a + b))) = 1 := by
    have G : pAddG x y kv = 1 → ∃ k a b, AVal.int? x = some (k, a) ∧ AVal.int? y = some (k, b) ∧ kv (mkV k (k.wrap (a + b))) = 1 := fun h => by
      obtain ⟨k, a, b, hx, hy, h⟩ := int2_one h
      exact ⟨k, a, b, hx, hy, by rw [addI_eq] at h; exact h⟩
    unfold pAdd at h
    rcases onN_one h with ⟨a, rfl, h1⟩ | h
    · rcases onN_one h1 with ⟨b, rfl, h2⟩ | h
      · rcases ifB_one h2 with ⟨hb, h⟩ | ⟨_, h⟩
        · rw [force_eq] at h
          refine ⟨.i64, _, _, rfl, rfl, ?_⟩
          have e : IntKind.i64.wrap (Int.ofNat a + Int.ofNat b) = Int.ofNat (a + b) := wrap64_small (n := a + b) (Nat.le_of_ble_eq_true hb)
          rw [e]; exact h
        · exact G h
      · exact G h
    · exact G h
  obtain ⟨k, a, b, hx, hy, h⟩ := key
  exact ⟨_, h, gives_int2 hx hy fun P w ρ => ⟨_, by simp [binOp, Op.intArith], .mkV _ _⟩⟩

theorem pSub_ok {x y : AVal} {kv : KP} (h : pSub x y kv = 1) (t : TypeId) : ∃ v, kv v = 1 ∧ Gives2 (binOp .sub t) x y v := by
  have key : ∃ k a b, AVal.int? x = some (k, a) ∧ AVal.int? y = some (k, b) ∧ kv (mkV k (k.wrap (a - b))) = 1 := by
    have G : pSubG x y kv = 1 → ∃ k a b, AVal.int? x = some (k, a) ∧ AVal.int? y = some (k, b) ∧ kv (mkV k (k.wrap (a - b))) = 1 := fun h => by
      obtain ⟨k, a, b, hx, hy, h⟩ := int2_one h
      exact ⟨k, a, b, hx, hy, by rw [subI_eq] at h; exact h⟩
    unfold pSub at h
    rcases onN_one h with ⟨a, rfl, h1⟩ | h
    · rcases onN_one h1 with ⟨b, rfl, h2⟩ | h
      · rcases ifB_one h2 with ⟨hb, h⟩ | ⟨_, h⟩
        · rw [force_eq] at h
          obtain ⟨h1, h2⟩ := andB_true hb
          have h1 := Nat.le_of_ble_eq_true h1
          have h2 := Nat.le_of_ble_eq_true h2
          refine ⟨.i64, _, _, rfl, rfl, ?_⟩
          have e : IntKind.i64.wrap (Int.ofNat a - Int.ofNat b) = Int.ofNat (a - b) := by
            have : Int.ofNat a - Int.ofNat b = ((a - b : Nat) : Int) := by show (a : Int) - (b : Int) = _; omega
            rw [this]; exact wrap64_small (n := a - b) (by omega)
          rw [e]; exact h
        · exact G h
      · exact G h
    · exact G h
  obtain ⟨k, a, b, hx, hy, h⟩ := key
  exact ⟨_, h, gives_int2 hx hy fun P w ρ => ⟨_, by simp [binOp, Op.intArith], .mkV _ _⟩⟩

theorem pMul_ok {x y : AVal} {kv : KP} (h : pMul x y kv = 1) (t : TypeId) : ∃ v, kv v = 1 ∧ Gives2 (binOp .mul t) x y v := by
  have key : ∃ k a b, AVal.int? x = some (k, a) ∧ AVal.int? y = some (k, b) ∧ kv (mkV k (k.wrap (a * b))) = 1 := by
    have G : pMulG x y kv = 1 → ∃ k a b, AVal.int? x = some (k, a) ∧ AVal.int? y = some (k, b) ∧ kv (mkV k (k.wrap (a * b))) = 1 := fun h => by
      obtain ⟨k, a, b, hx, hy, h⟩ := int2_one h
      exact ⟨k, a, b, hx, hy, by rw [mulI_eq] at h; exact h⟩
    unfold pMul at h
    rcases onN_one h with ⟨a, rfl, h1⟩ | h
    · rcases onN_one h1 with ⟨b, rfl, h2⟩ | h
      · rcases ifB_one h2 with ⟨hb, h⟩ | ⟨_, h⟩
        · rw [force_eq] at h
          refine ⟨.i64, _, _, rfl, rfl, ?_⟩
          have e : IntKind.i64.wrap (Int.ofNat a * Int.ofNat b) = Int.ofNat (a * b) := wrap64_small (n := a * b) (Nat.le_of_ble_eq_true hb)
          rw [e]; exact h
        · exact G h
      · exact G h
    · exact G h
  obtain ⟨k, a, b, hx, hy, h⟩ := key
  exact ⟨_, h, gives_int2 hx hy fun P w ρ => ⟨_, by simp [binOp, Op.intArith], .mkV _ _⟩⟩

theorem pQuo_ok {x y : AVal} {kv : KP} (h : pQuo x y kv = 1) (t : TypeId) : ∃ v, kv v = 1 ∧ Gives2 (binOp .quo t) x y v := by
  obtain ⟨k, a, b, hx, hy, h⟩ := int2_one h
  rcases ifB_one h with ⟨_, h⟩ | ⟨h0, h⟩
  · cases h
  · rw [quoI_eq] at h
    have hb : ¬ b = 0 := by rw [eqI_eq] at h0; simpa using h0
    exact ⟨_, h, gives_int2 hx hy fun P w ρ => ⟨_, by simp [binOp, Op.intDiv, hb], .mkV _ _⟩⟩
theorem pRem_ok {x y : AVal} {kv : KP} (h : pRem x y kv = 1) (t : TypeId) : ∃ v, kv v = 1 ∧ Gives2 (binOp .rem t) x y v := by
  obtain ⟨k, a, b, hx, hy, h⟩ := int2_one h
  rcases ifB_one h with ⟨_, h⟩ | ⟨h0, h⟩
  · cases h
  · rw [remI_eq] at h
    have hb : ¬ b = 0 := by rw [eqI_eq] at h0; simpa using h0
    exact ⟨_, h, gives_int2 hx hy fun P w ρ => ⟨_, by simp [binOp, Op.intDiv, hb], .mkV _ _⟩⟩

theorem bits2_one {f : Nat → Nat → Nat} {x y : AVal} {kv : KP} (h : bits2 f x y kv = 1) (hf : ∀ k a b, a < modOf k → b < modOf k → f a b < modOf k) :
    ∃ k a b, AVal.int? x = some (k, a) ∧ AVal.int? y = some (k, b) ∧ kv (mkV k (k.wrap (f (BitVec.ofInt k.bits a).toNat (BitVec.ofInt k.bits b).toNat))) = 1 := by
  obtain ⟨k, a, b, hx, hy, h⟩ := int2_one h
  obtain ⟨ha, h⟩ := resI_one h
  obtain ⟨hb, h⟩ := resI_one h
  rw [force_eq, backI_eq k _ (hf k _ _ ha hb), mk_eq] at h
  exact ⟨k, a, b, hx, hy, h⟩
theorem modOf_pow (k : IntKind) : modOf k = 2 ^ k.bits := by cases k <;> rfl
theorem pAnd_ok {x y : AVal} {kv : KP} (h : pAnd x y kv = 1) (t : TypeId) : ∃ v, kv v = 1 ∧ Gives2 (binOp .and t) x y v := by
  obtain ⟨k, a, b, hx, hy, h⟩ := bits2_one h (fun k a b ha hb => Nat.lt_of_le_of_lt Nat.and_le_left ha)
  exact ⟨_, h, gives_int2 hx hy fun P w ρ => ⟨_, by simp only [binOp, ne_eq, not_true_eq_false, if_false, Op.intBits]; rfl, by rw [BitVec.toNat_and]; exact .mkV _ _⟩⟩
theorem pOr_ok {x y : AVal} {kv : KP} (h : pOr x y kv = 1) (t : TypeId) : ∃ v, kv v = 1 ∧ Gives2 (binOp .or t) x y v := by
  obtain ⟨k, a, b, hx, hy, h⟩ := bits2_one h (fun k a b ha hb => by rw [modOf_pow] at *; exact Nat.or_lt_two_pow ha hb)
  exact ⟨_, h, gives_int2 hx hy fun P w ρ => ⟨_, by simp only [binOp, ne_eq, not_true_eq_false, if_false, Op.intBits]; rfl, by rw [BitVec.toNat_or]; exact .mkV _ _⟩⟩
theorem pXor_ok {x y : AVal} {kv : KP} (h : pXor x y kv = 1) (t : TypeId) : ∃ v, kv v = 1 ∧ Gives2 (binOp .xor t) x y v := by
  obtain ⟨k, a, b, hx, hy, h⟩ := bits2_one h (fun k a b ha hb => by rw [modOf_pow] at *; exact Nat.xor_lt_two_pow ha hb)
  exact ⟨_, h, gives_int2 hx hy fun P w ρ => ⟨_, by simp only [binOp, ne_eq, not_true_eq_false, if_false, Op.intBits]; rfl, by rw [BitVec.toNat_xor]; exact .mkV _ _⟩⟩

theorem shift2_one {f : IntKind → Int → Nat → Nat} {x y : AVal} (h : shift2 f x y = 1) : ∃ k a j b, AVal.int? x = some (k, a) ∧ AVal.int? y = some (j, .ofNat b) ∧ f k a (min b k.bits) = 1 := by
  unfold shift2 at h
  obtain ⟨k, a, hx, h⟩ := onInt_one h
  obtain ⟨j, b, hy, h⟩ := onInt_one h
  obtain ⟨m, rfl, h⟩ := natI_one h
  refine ⟨k, a, j, m, hx, hy, ?_⟩
  rcases ifB_one h with ⟨hb, h⟩ | ⟨hb, h⟩
  · rw [Nat.min_eq_left (by rw [← bitsOf_eq]; exact Nat.le_of_ble_eq_true hb)]; exact h
  · have : ¬ m ≤ bitsOf k := fun hle => by rw [Nat.ble_eq_true_of_le hle] at hb; cases hb
    rw [bitsOf_eq] at *
    rw [Nat.min_eq_right (by omega)]; exact h
theorem gives_shift {op : BinOp} {t : TypeId} {x y v : AVal} {k j : IntKind} {a : Int} {b : Nat} (hop : op = .shl ∨ op = .shr) (hx : AVal.int? x = some (k, a)) (hy : AVal.int? y = some (j, .ofNat b))
    (hs : ∀ P w ρ, ∃ cv, (Op.shift op k a j (.ofNat b)).run P w = .ok cv w ∧ VRel ρ v cv) : Gives2 (binOp op t) x y v := by
  intro P w ρ cx cy rx ry
  rw [int_inv rx hx, int_inv ry hy]
  rcases hop with rfl | rfl <;> exact hs P w ρ
theorem pShl_ok {x y : AVal} {kv : KP} (h : pShl x y kv = 1) (t : TypeId) : ∃ v, kv v = 1 ∧ Gives2 (binOp .shl t) x y v := by
  obtain ⟨k, a, j, b, hx, hy, h⟩ := shift2_one h
  cases a with
  | negSucc m => cases h
  | ofNat m =>
    change wrn k kv (Nat.shiftLeft m (min b k.bits)) = 1 at h
    rw [wrn_eq] at h
    refine ⟨_, h, gives_shift (.inl rfl) hx hy fun P w ρ => ?_⟩
    have hn : ¬ (Int.ofNat b < 0) := by show ¬ ((b : Int) < 0); omega
    refine ⟨.int k (k.wrap (Int.ofNat m * 2 ^ min (Int.ofNat b).toNat k.bits)), by simp only [Op.shift, hn, if_false]; rfl, ?_⟩
    have e : (Int.ofNat m * 2 ^ min (Int.ofNat b).toNat k.bits : Int) = ((Nat.shiftLeft m (min b k.bits) : Nat) : Int) := by
      have := Nat.shiftLeft_eq m (min b k.bits)
      show (m : Int) * 2 ^ min b k.bits = ((m <<< min b k.bits : Nat) : Int)
      rw [this]; push_cast; rfl
    rw [e]; exact .mkV _ _
theorem pShr_ok {x y : AVal} {kv : KP} (h : pShr x y kv = 1) (t : TypeId) : ∃ v, kv v = 1 ∧ Gives2 (binOp .shr t) x y v := by
  obtain ⟨k, a, j, b, hx, hy, h⟩ := shift2_one h
  have hn : ¬ (Int.ofNat b < 0) := by show ¬ ((b : Int) < 0); omega
  have hp : (0 : Int) < 2 ^ min b k.bits := Int.pow_pos (by decide)
  cases a with
  | ofNat m =>
    change force (Nat.shiftRight m (min b k.bits)) _ = 1 at h
    rw [force_eq, mk_eq] at h
    refine ⟨_, h, gives_shift (.inr rfl) hx hy fun P w ρ => ?_⟩
    refine ⟨.int k ((Int.ofNat m).fdiv (2 ^ min (Int.ofNat b).toNat k.bits)), by simp only [Op.shift, hn, if_false]; rfl, ?_⟩
    have e : ((Int.ofNat m).fdiv (2 ^ min (Int.ofNat b).toNat k.bits) : Int) = ((Nat.shiftRight m (min b k.bits) : Nat) : Int) := by
      have := Nat.shiftRight_eq_div_pow m (min b k.bits)
      show ((m : Int)).fdiv (2 ^ min b k.bits) = ((m >>> min b k.bits : Nat) : Int)
      rw [this, Int.fdiv_eq_ediv_of_nonneg _ (by omega)]; push_cast; rfl
    rw [e]; exact .mkV _ _
  | negSucc m =>
    change force (Nat.shiftRight m (min b k.bits)) _ = 1 at h
    rw [force_eq, mk_eq] at h
    refine ⟨_, h, gives_shift (.inr rfl) hx hy fun P w ρ => ?_⟩
    refine ⟨.int k ((Int.negSucc m).fdiv (2 ^ min (Int.ofNat b).toNat k.bits)), by simp only [Op.shift, hn, if_false]; rfl, ?_⟩
    have e : ((Int.negSucc m).fdiv (2 ^ min (Int.ofNat b).toNat k.bits) : Int) = Int.negSucc (Nat.shiftRight m (min b k.bits)) := by
      have := Nat.shiftRight_eq_div_pow m (min b k.bits)
      show (Int.negSucc m).fdiv (2 ^ min b k.bits) = Int.negSucc (m >>> min b k.bits)
      rw [this]
      have hc : (2 : Int) ^ min b k.bits = ((2 ^ min b k.bits : Nat) : Int) := by push_cast; rfl
      rw [hc]
      have h2 : 0 < 2 ^ min b k.bits := Nat.pow_pos (by decide)
      generalize 2 ^ min b k.bits = q at *
      cases q with
      | zero => omega
      | succ q => rfl
    rw [e]; exact .mkV _ _

/-! comparisons -/
theorem cmp_ok {op : BinOp} {t : TypeId} {x y : AVal} {kv : KP} {r : Int → Int → Bool} (hr : ∀ P w k a b, (binOp op t (.int k a) (.int k b)).run P w = .ok (.bool (r a b)) w)
    (h : ∃ k a b, AVal.int? x = some (k, a) ∧ AVal.int? y = some (k, b) ∧ kv (if r a b then .tt else .ff) = 1) : ∃ v, kv v = 1 ∧ Gives2 (binOp op t) x y v := by
  obtain ⟨k, a, b, hx, hy, h⟩ := h
  exact ⟨_, h, gives_int2 hx hy fun P w ρ => ⟨_, hr P w k a b, .bool _⟩⟩
theorem cmpFast {x y : AVal} {kv : KP} {r : Int → Int → Bool} {fast : Nat → Nat → Nat} {slow : Nat}
    (h : onN x (fun a => onN y (fun b => fast a b) slow) slow = 1) (hf : ∀ a b, fast a b = kv (if r (.ofNat a) (.ofNat b) then .tt else .ff))
    (hs : slow = 1 → ∃ k a b, AVal.int? x = some (k, a) ∧ AVal.int? y = some (k, b) ∧ kv (if r a b then .tt else .ff) = 1) :
    ∃ k a b, AVal.int? x = some (k, a) ∧ AVal.int? y = some (k, b) ∧ kv (if r a b then .tt else .ff) = 1 := by
  rcases onN_one h with ⟨a, rfl, h1⟩ | h1
  · rcases onN_one h1 with ⟨b, rfl, h2⟩ | h2
    · exact ⟨.i64, _, _, rfl, rfl, by rw [← hf]; exact h2⟩
    · exact hs h2
  · exact hs h1
theorem bleI (a b : Nat) : Nat.ble a b = decide (Int.ofNat a ≤ Int.ofNat b) := by
  rw [Bool.eq_iff_iff, decide_eq_true_iff, Nat.ble_eq]; show a ≤ b ↔ (a : Int) ≤ (b : Int); omega
theorem bltI (a b : Nat) : Nat.ble (Nat.succ a) b = decide (Int.ofNat a < Int.ofNat b) := by
  rw [Bool.eq_iff_iff, decide_eq_true_iff, Nat.ble_eq]; show a + 1 ≤ b ↔ (a : Int) < (b : Int); omega
theorem beqI (a b : Nat) : Nat.beq a b = (Int.ofNat a == Int.ofNat b) := by
  rw [Bool.eq_iff_iff, Nat.beq_eq, beq_iff_eq]; show a = b ↔ (a : Int) = (b : Int); omega
theorem pLt_ok {x y : AVal} {kv : KP} (h : pLt x y kv = 1) (t : TypeId) : ∃ v, kv v = 1 ∧ Gives2 (binOp .lss t) x y v :=
  cmp_ok (r := fun a b => decide (a < b)) (fun P w k a b => by simp [binOp, Op.intCmp]) <| cmpFast h (fun a b => by rw [kb_eq, bltI]) fun h => by
    obtain ⟨k, a, b, hx, hy, h⟩ := int2_one h
    rw [nkb_eq, leI_eq] at h
    refine ⟨k, a, b, hx, hy, ?_⟩
    have e : (!decide (b ≤ a)) = decide (a < b) := by rw [Bool.eq_iff_iff]; simp
    rw [← e]; exact h
theorem pLe_ok {x y : AVal} {kv : KP} (h : pLe x y kv = 1) (t : TypeId) : ∃ v, kv v = 1 ∧ Gives2 (binOp .leq t) x y v :=
  cmp_ok (r := fun a b => decide (a ≤ b)) (fun P w k a b => by simp [binOp, Op.intCmp]) <| cmpFast h (fun a b => by rw [kb_eq, bleI]) fun h => by
    obtain ⟨k, a, b, hx, hy, h⟩ := int2_one h
    rw [kb_eq, leI_eq] at h
    exact ⟨k, a, b, hx, hy, h⟩
theorem pGt_ok {x y : AVal} {kv : KP} (h : pGt x y kv = 1) (t : TypeId) : ∃ v, kv v = 1 ∧ Gives2 (binOp .gtr t) x y v :=
  cmp_ok (r := fun a b => decide (a > b)) (fun P w k a b => by simp [binOp, Op.intCmp]) <| cmpFast h (fun a b => by rw [kb_eq, bltI]) fun h => by
    obtain ⟨k, a, b, hx, hy, h⟩ := int2_one h
    rw [nkb_eq, leI_eq] at h
    refine ⟨k, a, b, hx, hy, ?_⟩
    have e : (!decide (a ≤ b)) = decide (a > b) := by rw [Bool.eq_iff_iff]; simp
    rw [← e]; exact h
theorem pGe_ok {x y : AVal} {kv : KP} (h : pGe x y kv = 1) (t : TypeId) : ∃ v, kv v = 1 ∧ Gives2 (binOp .geq t) x y v :=
  cmp_ok (r := fun a b => decide (a ≥ b)) (fun P w k a b => by simp [binOp, Op.intCmp]) <| cmpFast h (fun a b => by rw [kb_eq, bleI]) fun h => by
    obtain ⟨k, a, b, hx, hy, h⟩ := int2_one h
    rw [kb_eq, leI_eq] at h
    exact ⟨k, a, b, hx, hy, h⟩
theorem pEqI_ok {x y : AVal} {kv : KP} (h : pEqI x y kv = 1) (t : TypeId) : ∃ v, kv v = 1 ∧ Gives2 (binOp .eql t) x y v :=
  cmp_ok (r := fun a b => a == b) (fun P w k a b => by simp [binOp, Op.intCmp]) <| cmpFast h (fun a b => by rw [kb_eq, beqI]) fun h => by
    obtain ⟨k, a, b, hx, hy, h⟩ := int2_one h
    rw [kb_eq, eqI_eq] at h
    exact ⟨k, a, b, hx, hy, h⟩
theorem pNeI_ok {x y : AVal} {kv : KP} (h : pNeI x y kv = 1) (t : TypeId) : ∃ v, kv v = 1 ∧ Gives2 (binOp .neq t) x y v :=
  cmp_ok (r := fun a b => a != b) (fun P w k a b => by simp [binOp, Op.intCmp]) <| cmpFast h (fun a b => by rw [nkb_eq, beqI]; rfl) fun h => by
    obtain ⟨k, a, b, hx, hy, h⟩ := int2_one h
    rw [nkb_eq, eqI_eq] at h
    exact ⟨k, a, b, hx, hy, h⟩

end Go.Proofs.YtmgigdklcaepdaaGreatDoor.Ax
end
section
namespace Go.Proofs.YtmgigdklcaepdaaGreatDoor.Ax
set_option linter.unusedVariables false
set_option linter.unusedSimpArgs false

theorem shl8 (a n : Nat) : Nat.shiftLeft a (Nat.mul 8 n) = a * 256 ^ n := by
  have h := Nat.shiftLeft_eq a (8 * n)
  have e : (2 : Nat) ^ (8 * n) = 256 ^ n := by rw [Nat.pow_mul]
  rw [e] at h
  exact h
theorem shr8 (a n : Nat) : Nat.shiftRight a (Nat.mul 8 n) = a / 256 ^ n := by
  have h := Nat.shiftRight_eq_div_pow a (8 * n)
  have e : (2 : Nat) ^ (8 * n) = 256 ^ n := by rw [Nat.pow_mul]
  rw [e] at h
  exact h
theorem land255 (m : Nat) : Nat.land m 255 = m % 256 := by
  have := Nat.and_two_pow_sub_one_eq_mod m 8
  simpa using this
theorem byteAt_eq (code i : Nat) : byteAt code i = code / 256 ^ i % 256 := by unfold byteAt; rw [land255, shr8]
theorem cutN_eq (code o n : Nat) : cutN code o n = code / 256 ^ o % 256 ^ n := by
  unfold cutN
  rw [shr8, shl8, Nat.one_mul]
  rfl

theorem bytesOf_length (n code : Nat) : (bytesOf n code).length = n := by
  induction n generalizing code with
  | zero => rfl
  | succ n ih => simp [bytesOf, ih]
theorem bytesOf_get (n code i : Nat) (h : i < n) : (bytesOf n code)[i]? = some (UInt8.ofNat (code / 256 ^ i % 256)) := by
  induction n generalizing code i with
  | zero => omega
  | succ n ih =>
    cases i with
    | zero => simp [bytesOf]
    | succ i =>
      simp only [bytesOf, List.getElem?_cons_succ]
      rw [ih _ _ (by omega), Nat.div_div_eq_div_mul, Nat.pow_succ, Nat.mul_comm (256 ^ i)]
theorem bytesOf_append (n m a b : Nat) (h : a < 256 ^ n) : bytesOf n a ++ bytesOf m b = bytesOf (n + m) (a + b * 256 ^ n) := by
  induction n generalizing a with
  | zero =>
    have : a = 0 := by simpa using h
    subst this
    simp [bytesOf]
  | succ n ih =>
    have e : n + 1 + m = (n + m) + 1 := by omega
    rw [e]
    simp only [bytesOf, List.cons_append]
    have h1 : (a + b * 256 ^ (n + 1)) % 256 = a % 256 := by
      rw [Nat.pow_succ, ← Nat.mul_assoc, Nat.add_mul_mod_self_right]
    have h2 : (a + b * 256 ^ (n + 1)) / 256 = a / 256 + b * 256 ^ n := by
      rw [Nat.pow_succ, ← Nat.mul_assoc, Nat.add_mul_div_right _ _ (by decide)]
    rw [h1, h2, ← ih (a / 256) (by rw [Nat.div_lt_iff_lt_mul (by decide)]; rw [Nat.pow_succ] at h; exact h)]
theorem append_lt (n m a b : Nat) (h : a < 256 ^ n) (k : b < 256 ^ m) : a + b * 256 ^ n < 256 ^ (n + m) := by
  rw [Nat.pow_add]
  have : (b + 1) * 256 ^ n ≤ 256 ^ m * 256 ^ n := Nat.mul_le_mul_right _ k
  rw [Nat.add_mul, Nat.one_mul, Nat.mul_comm (256 ^ m)] at this
  omega
theorem bytesOf_drop (n code l : Nat) : (bytesOf n code).drop l = bytesOf (n - l) (code / 256 ^ l) := by
  induction l generalizing n code with
  | zero => simp
  | succ l ih =>
    cases n with
    | zero => simp [bytesOf]
    | succ n =>
      simp only [bytesOf, List.drop_succ_cons]
      rw [ih, Nat.div_div_eq_div_mul, Nat.pow_succ, Nat.mul_comm 256, Nat.succ_sub_succ]
theorem bytesOf_mod (n code : Nat) : bytesOf n (code % 256 ^ n) = bytesOf n code := by
  induction n generalizing code with
  | zero => rfl
  | succ n ih =>
    simp only [bytesOf]
    have h1 : code % 256 ^ (n + 1) % 256 = code % 256 := Nat.mod_mod_of_dvd _ (by rw [Nat.pow_succ]; exact Nat.dvd_mul_left _ _)
    have h2 : code % 256 ^ (n + 1) / 256 = code / 256 % 256 ^ n := by
      rw [Nat.pow_succ, Nat.mul_comm, Nat.mod_mul_right_div_self]
    rw [h1, h2, ih]
theorem bytesOf_take (n code m : Nat) (h : m ≤ n) : (bytesOf n code).take m = bytesOf m code := by
  induction m generalizing n code with
  | zero => simp [bytesOf]
  | succ m ih =>
    cases n with
    | zero => omega
    | succ n => simp only [bytesOf, List.take_succ_cons]; rw [ih _ _ (by omega)]
theorem bytesOf_cut (n code l m : Nat) (h : l + m ≤ n) : ((bytesOf n code).drop l).take m = bytesOf m (cutN code l m) := by
  rw [bytesOf_drop, bytesOf_take _ _ _ (by omega), cutN_eq, bytesOf_mod]
theorem cutN_lt (code o n : Nat) : cutN code o n < 256 ^ n := by rw [cutN_eq]; exact Nat.mod_lt _ (Nat.pow_pos (by decide))
theorem bytesOf_inj (n a b : Nat) (ha : a < 256 ^ n) (hb : b < 256 ^ n) (h : bytesOf n a = bytesOf n b) : a = b := by
  induction n generalizing a b with
  | zero => simp at ha hb; omega
  | succ n ih =>
    simp only [bytesOf, List.cons.injEq] at h
    have h1 : a % 256 = b % 256 := by
      have := congrArg UInt8.toNat h.1
      simpa using this
    have h2 := ih (a / 256) (b / 256) (by rw [Nat.div_lt_iff_lt_mul (by decide)]; rw [Nat.pow_succ] at ha; exact ha) (by rw [Nat.div_lt_iff_lt_mul (by decide)]; rw [Nat.pow_succ] at hb; exact hb) h.2
    omega

/-- The model's text. -/
def txt (n code : Nat) : ByteArray := ⟨(bytesOf n code).toArray⟩
theorem txt_size (n code : Nat) : (txt n code).size = n := by simp [txt, ByteArray.size, bytesOf_length]
theorem str_inv {ρ : Ren} {n code : Nat} {cv : Value} (h : VRel ρ (.str n code) cv) : cv = .string (txt n code) ∧ code < 256 ^ n := by
  cases h with
  | str h => exact ⟨rfl, h⟩
theorem txt_toList (n code : Nat) : (txt n code).data.toList = bytesOf n code := by simp [txt]
theorem txt_toList' (n code : Nat) : (txt n code).toList = bytesOf n code := by
  rw [Go.ByteArray.toList_eq, txt_toList]

end Go.Proofs.YtmgigdklcaepdaaGreatDoor.Ax
end

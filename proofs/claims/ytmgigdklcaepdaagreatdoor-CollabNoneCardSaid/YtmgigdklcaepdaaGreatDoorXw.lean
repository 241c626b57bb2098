/-
  Joining: tables from their entries; a closed law.
-/
import Derived.Test.YtmgigdklcaepdaaGreatDoorXv
import Derived.KernelRfl
set_option linter.unusedVariables false
set_option linter.unusedSimpArgs false
namespace Go.Proofs.YtmgigdklcaepdaaGreatDoor.Ax
set_option linter.unusedVariables false
set_option linter.unusedSimpArgs false

variable {P : Program} {T : Tab}

/-- A function's denotation. -/
noncomputable def denF (T : Tab) (G : Glob) (ps : List Nat) (np : Nat) (fn : Func) : FnD := match fn.body with
  | some c => denFn T G ps np fn.ntmps fn.results.toList c
  | none => fun _ _ _ _ => fail
def bodied (fn : Func) : Bool := fn.body.isSome && !(fn.name == "runtime.NumGoroutine")
theorem denF_ok {gl : Fixed} {G : Glob} (hG : GOk gl G) (hT : TabOk P T) (hM : P.follows .mixedOrders = true) {f : FuncId} {fn : Func} {ps : List Nat} {np : Nat} {F : FnD} (hF : F = denF T G ps np fn) (hf : P.funcs[f]? = some fn) (hb : bodied fn = true) : FnOk P gl f F := by
  unfold bodied at hb
  rw [Bool.and_eq_true] at hb
  obtain ⟨h1, h2⟩ := hb
  obtain ⟨c, hc⟩ := Option.isSome_iff_exists.mp h1
  rw [hF]
  unfold denF
  rw [hc]
  exact denFn_ok hG hT hM hf hc (by simpa using h2)

/-- Entries of a trie, one by one. -/
def TAll {α : Type} (t : Trie α) (p : Nat → α → Prop) : Prop := ∀ n x, t.look n = some x → p n x
theorem TAll.lf {α : Type} {p : Nat → α → Prop} : TAll (.lf : Trie α) p := fun n x h => by cases h
def OAll {α : Type} (v : Option α) (q : α → Prop) : Prop := ∀ x, v = some x → q x
theorem TAll.nd {α : Type} {p : Nat → α → Prop} {v : Option α} {a b c d : Trie α} (h0 : OAll v (p 0)) (ha : TAll a fun n => p (4 * n + 1)) (hb : TAll b fun n => p (4 * n + 2)) (hc : TAll c fun n => p (4 * n + 3)) (hd : TAll d fun n => p (4 * n + 4)) : TAll (.nd v a b c d) p := by
  intro n x h
  cases n with
  | zero => exact h0 x h
  | succ m =>
    have h : (if m % 4 = 0 then a.look (m / 4) else if m % 4 = 1 then b.look (m / 4) else if m % 4 = 2 then c.look (m / 4) else d.look (m / 4)) = some x := by
      unfold Trie.look at h
      rw [if_neg (Nat.succ_ne_zero m), Nat.add_sub_cancel] at h
      exact h
    have e : m = 4 * (m / 4) + m % 4 := by omega
    have h4 : m % 4 < 4 := Nat.mod_lt _ (by decide)
    have : m % 4 = 0 ∨ m % 4 = 1 ∨ m % 4 = 2 ∨ m % 4 = 3 := by omega
    rcases this with q | q | q | q <;> simp [q] at h
    · have h' : p (4 * (m / 4) + 1) x := ha _ _ h
      rw [show 4 * (m / 4) + 1 = m + 1 by omega] at h'; exact h'
    · have h' : p (4 * (m / 4) + 2) x := hb _ _ h
      rw [show 4 * (m / 4) + 2 = m + 1 by omega] at h'; exact h'
    · have h' : p (4 * (m / 4) + 3) x := hc _ _ h
      rw [show 4 * (m / 4) + 3 = m + 1 by omega] at h'; exact h'
    · have h' : p (4 * (m / 4) + 4) x := hd _ _ h
      rw [show 4 * (m / 4) + 4 = m + 1 by omega] at h'; exact h'
theorem OAll.no {α : Type} {q : α → Prop} : OAll none q := fun x h => by cases h
theorem OAll.so {α : Type} {q : α → Prop} {y : α} (h : q y) : OAll (some y) q := fun x e => by injection e with e; exact e ▸ h
/-- A trie of what a function gives, as long as it gives something. -/
def mkF {α : Type} : Nat → (Nat → Option α) → Trie α
  | 0, _ => .lf
  | d + 1, f => match f 0 with
    | none => .lf
    | some v => .nd (some v) (mkF d fun n => f (4 * n + 1)) (mkF d fun n => f (4 * n + 2)) (mkF d fun n => f (4 * n + 3)) (mkF d fun n => f (4 * n + 4))
theorem mkF_all {α : Type} : ∀ (d : Nat) (f : Nat → Option α), TAll (mkF d f) fun n x => f n = some x
  | 0, f => .lf
  | d + 1, f => by
    unfold mkF
    split
    · exact .lf
    · rename_i v h
      exact .nd (.so h) (mkF_all d fun n => f (4 * n + 1)) (mkF_all d fun n => f (4 * n + 2)) (mkF_all d fun n => f (4 * n + 3)) (mkF_all d fun n => f (4 * n + 4))

/-- A method's row, by a look. -/
def methB (P : Program) (name : String) (m : Meth) : Bool :=
  match P.info? m.t with
  | some i => match i.methods.find? (·.name == name) with
    | some mt => mt.path.isEmpty && match mt.func with
      | some (f, ptr) => Nat.beq f m.f && match P.underlying m.t, m.deref with
        | some (.pointer _), 0 => ptr
        | some _, 0 => !ptr
        | some (.pointer e), 1 => !ptr && match P.underlying e with | some de => !(isAggD de) | none => false
        | some (.pointer e), n + 2 => !ptr && match P.underlying e, P.info? e with | some de, some ie => isAggD de && Nat.beq ie.size n | _, _ => false
        | _, _ => false
      | none => false
    | none => false
  | none => false
theorem methB_ok {name : String} {m : Meth} (h : methB P name m = true) : MethOk P name m := by
  unfold methB at h
  split at h
  case h_2 => cases h
  rename_i i hi
  split at h
  case h_2 => cases h
  rename_i mt hm
  rw [Bool.and_eq_true] at h
  obtain ⟨hp, h⟩ := h
  split at h
  case h_2 => cases h
  rename_i f ptr hf
  rw [Bool.and_eq_true] at h
  obtain ⟨hfe, h⟩ := h
  have hfe := Nat.eq_of_beq_eq_true hfe
  subst hfe
  refine ⟨i, mt, ptr, ?_⟩
  split at h
  · rename_i e hu hd; exact ⟨_, hi, hm, hp, hf, hu, by rw [hd]; exact h⟩
  · rename_i d hne hu hd
    refine ⟨_, hi, hm, hp, hf, hu, ?_⟩
    rw [hd]
    have h : ptr = false := by simpa using h
    cases d <;> first | exact h | exact absurd rfl (hne _)
  · rename_i e hu hd
    rw [Bool.and_eq_true] at h
    obtain ⟨h1, h2⟩ := h
    split at h2
    · rename_i de hde
      exact ⟨_, hi, hm, hp, hf, hu, by rw [hd]; exact ⟨by simpa using h1, e, de, rfl, hde, by simpa using h2⟩⟩
    · cases h2
  · rename_i e n hu hd
    rw [Bool.and_eq_true] at h
    obtain ⟨h1, h2⟩ := h
    split at h2
    · rename_i de ie hde hie
      rw [Bool.and_eq_true] at h2
      exact ⟨_, hi, hm, hp, hf, hu, by rw [hd]; exact ⟨by simpa using h1, e, de, ie, rfl, hde, h2.1, hie, Nat.eq_of_beq_eq_true h2.2⟩⟩
    · cases h2
  · cases h
def methsB (P : Program) : List (String × List Meth) → Bool
  | [] => true
  | (n, l) :: r => l.all (methB P n) && methsB P r
theorem methsB_ok : ∀ {l : List (String × List Meth)}, methsB P l = true → ∀ name m, m ∈ methsOf l name → MethOk P name m
  | [], h, name, m, hm => by cases hm
  | (n, l) :: r, h, name, m, hm => by
    unfold methsB at h
    rw [Bool.and_eq_true] at h
    unfold methsOf at hm
    split at hm
    · rename_i e
      rw [← e]
      exact methB_ok (List.all_eq_true.mp h.1 m hm)
    · exact methsB_ok h.2 name m hm
def eqsB (P : Program) (l : List Nat) : Bool := l.all fun t => !(P.stoodInHeld t) && !(P.eqGuardType P.depth t)
theorem eqsB_ok {l : List Nat} (h : eqsB P l = true) : ∀ t, l.contains t = true → P.stoodInHeld t = false ∧ P.eqGuardType P.depth t = false := by
  intro t ht
  have := List.all_eq_true.mp h t (by simpa using ht)
  simpa using this
theorem tab_ok {d : Nat} (h1 : T.ty = mkF d fun t => P.info? t) (h2 : eqsB P T.eq = true) (h3 : methsB P T.ms = true) : TabOk P T := ⟨by rw [h1]; exact mkF_all d _, eqsB_ok h2, methsB_ok h3⟩

/-- No package-level variable is read. -/
theorem G_ok (gl : Fixed) : GOk gl G := fun g o kv h => by
  have h : (500 : Nat) = 1 := h
  cases h

noncomputable def H0 : Heap := ⟨.lf, 0⟩
noncomputable def fin1 : K := fun v _ => onBool v 1 0
/-- What is said of a world behind a call that made new blocks alone. -/
structure After (w w' : World) : Prop where
  same : ∀ c, c < w.heap.size → w'.heap[c]? = w.heap[c]?
  size : w.heap.size ≤ w'.heap.size
  tape : w'.tape = w.tape
  os : w'.os = w.os
  out : w'.output = w.output
/-- A closed law: it answers true, and writes to nothing that was there. -/
theorem closed_calls {G : Glob} (hG : GOk [] G) (hT : TabOk P T) (hM : P.follows .mixedOrders = true) {f : FuncId} {fn : Func} {ps : List Nat} {np : Nat} {F : FnD} (hF : F = denF T G ps np fn) (hf : P.funcs[f]? = some fn) (hb : bodied fn = true) {tbl : Trie FnD} (htbl : TAll tbl fun f D => FnOk P [] f D) {d : Nat}
    (h : F (run tbl d) [] H0 fin1 = 1) (w : World) : Calls P f #[] w fun e w' => e = .returned (.bool true) ∧ After w w' := by
  unfold bodied at hb
  rw [Bool.and_eq_true] at hb
  obtain ⟨h1, h2⟩ := hb
  obtain ⟨c, hc⟩ := Option.isSome_iff_exists.mp h1
  rw [hF] at h
  unfold denF at h
  rw [hc] at h
  obtain ⟨v, H', h3, h4⟩ := denFn_calls hG hT hM hf hc (run_ok htbl d) h
  have hv : v = .tt := by
    rcases onBool_one (show onBool v 1 0 = 1 from h3) with ⟨e, _⟩ | ⟨_, e⟩
    · exact e
    · cases e
  subst hv
  refine h4 w (fun _ => none) #[] ⟨fun b L o hb => by (cases hb), fun b b' L L' _ hb => by (cases hb), fun b L hb => by (cases hb), fun g o hg => by (cases hg)⟩ (fun b _ => rfl) .nil _ fun cv ρ' w' g hr hv => ?_
  cases hv
  exact ⟨rfl, fun c hc => g.same c hc (fun b L hb => by cases hb), g.size, g.tape, g.os, g.out⟩

end Go.Proofs.YtmgigdklcaepdaaGreatDoor.Ax

/-
  What a function's code is as a function of the abstract machine. · The tables are right; constants, operands. · The operations of the denotation do what the model's do: those on values alone.
-/
import Derived.Test.YtmgigdklcaepdaaGreatDoorXk
import Derived.Test.YtmgigdklcaepdaaGreatDoorXb
set_option linter.unusedVariables false
set_option linter.unusedSimpArgs false
section
namespace Go.Proofs.YtmgigdklcaepdaaGreatDoor.Ax
set_option linter.unusedVariables false

/-- Bytes as a number, the lowest first. -/
def codeOf (s : ByteArray) : Nat := s.data.toList.foldr (fun x n => x.toNat + 256 * n) 0
def cv0 : Value → Option AVal
  | .int k n => some (mkV k n)
  | .bool true => some .tt
  | .bool false => some .ff
  | .string s => some (.str s.size (codeOf s))
  | .pointer none => some (.z (.cst 0))
  | .slice none 0 0 => some (.z (.cst 1))
  | .map none => some (.z (.cst 2))
  | .nilFunc => some (.z (.cst 3))
  | .nilIface => some (.z (.cst 4))
  | _ => none
def cvL : List Value → Option (List AVal)
  | [] => some []
  | v :: vs => match cv0 v, cvL vs with | some a, some as => some (a :: as) | _, _ => none
def cv : Value → Option AVal
  | .agg cs => (cvL cs.toList).map fun l => .z (.agg l)
  | .tuple cs => (cvL cs.toList).map fun l => .z (.tuple l)
  | .func (.func f) a c => if a.size = 0 ∧ c.size = 0 then some (.z (.func f [] [])) else none
  | v => cv0 v

/-- What is known of the program's types, of its methods. -/
structure Tab where
  ty : Trie TypeInfo
  /-- structs that may be compared -/
  eq : List Nat
  /-- methods by their name -/
  ms : List (String × List Meth)

abbrev Sc := List (Nat × AVal)
def Sc.get (sc : Sc) (t : Nat) : Option AVal := match sc with | [] => none | (u, v) :: r => if u = t then some v else Sc.get r t
def opd (sc : Sc) : Operand → Option AVal
  | .tmp t => sc.get t
  | .const v => cv v
  | .global g => some (.z (.gptr g 0))
  | .func f => some (.z (.func f [] []))
def opds (sc : Sc) : List Operand → Option (List AVal)
  | [] => some []
  | x :: xs => match opd sc x, opds sc xs with | some a, some as => some (a :: as) | _, _ => none

def Tab.und (T : Tab) (t : Nat) : Option TypeDesc :=
  match T.ty.look t with
  | some { desc := .named _ u, .. } => (T.ty.look u).map (·.desc)
  | some i => some i.desc
  | none => none

/-- An operation, as the machine's. -/
inductive Prim where
  | mv (v : AVal)
  | val (f : KP → Nat)
  | read (f : Heap → KP → Nat)
  | new (f : Heap → K → Nat)
  | act (f : Rec → Heap → K → Nat)
  | bad

def Tab.size (T : Tab) (t : Nat) : Option Nat := (T.ty.look t).map (·.size)
def Tab.bytes (T : Tab) (t : Nat) : Option Nat := (T.ty.look t).map (·.bytes)
def Tab.isAgg (T : Tab) (t : Nat) : Option Bool := (T.und t).map isAggD
def Tab.zero (T : Tab) (t : Nat) : Option Value := (T.ty.look t).bind (·.zero)
/-- A type's zero, as a value; its cells. -/
def Tab.zeroV (T : Tab) (t : Nat) : Option AVal := (T.zero t).bind cv
def Tab.zeroL (T : Tab) (t : Nat) : Option (List AVal) := (T.zero t).bind fun z => cvL z.cells.toList
/-- The kinds of a flat struct's fields. -/
def Tab.kinds (T : Tab) : List Field → Nat → Option (List Nat)
  | [], _ => some []
  | f :: fs, j => if f.name ≠ "_" ∧ f.offset = j then match (T.und f.type).bind kindOf, T.kinds fs (j + 1) with | some k, some ks => some (k :: ks) | _, _ => none else none
def Tab.keyK (T : Tab) (t : Nat) : Option (List Nat) :=
  match T.und t with
  | some (.map k _) => match T.und k with
    | some .string => some []
    | some (.struct fs) => if T.eq.contains k ∧ fs.toList ≠ [] then T.kinds fs.toList 0 else none
    | _ => none
  | _ => none
def isNilIf : Operand → Bool
  | .const .nilIface => true
  | _ => false

noncomputable def binPrim (T : Tab) (op : BinOp) (t : Nat) (x y : Operand) : Option (AVal → AVal → KP → Nat) :=
  match T.und t with
  | some (.int _) => match op with
    | .add => some pAdd | .sub => some pSub | .mul => some pMul | .quo => some pQuo | .rem => some pRem
    | .and => some pAnd | .or => some pOr | .xor => some pXor | .shl => some pShl | .shr => some pShr
    | .lss => some pLt | .leq => some pLe | .gtr => some pGt | .geq => some pGe | .eql => some pEqI | .neq => some pNeI
    | _ => none
  | some .string => match op with
    | .add => some pCat | .lss => some pLtS | .gtr => some pGtS | .eql => some pEqS | .neq => some pNeS
    | _ => none
  | some .bool => match op with | .eql => some pEqC | .neq => some pNeC | _ => none
  | some (.struct fs) => if T.eq.contains t then match T.kinds fs.toList 0 with
    | some ks => match op with | .eql => some (pEqA ks) | .neq => some (pNeA ks) | _ => none
    | none => none else none
  | some (.pointer _) => match op with | .eql => some pEqP | .neq => some pNeP | _ => none
  | some (.slice _) => match op with | .eql => some pEqSl | .neq => some pNeSl | _ => none
  | some (.map _ _) => match op with | .eql => some pEqM | .neq => some pNeM | _ => none
  | some (.interface _) => if isNilIf x || isNilIf y then match op with | .eql => some pEqIf | .neq => some pNeIf | _ => none else none
  | _ => none

/-- A type that is known, and no interface. -/
def Tab.plain (T : Tab) (t : Nat) : Bool := match T.und t with
  | some (.interface _) => false
  | some _ => true
  | none => false
def appSrc : Option TypeDesc → Bool
  | some .string => true
  | some (.slice _) => true
  | _ => false
/-- What append asks of the types. -/
def Tab.app (T : Tab) (ts : Array TypeId) : Option Nat :=
  match ts.toList with
  | [t, u] => match T.und t with
    | some (.slice e) => match T.ty.look e with
      | some i => match i.zero with
        | some z => if z.cells.size = i.size ∧ i.bytes ≤ 4096 ∧ 0 < i.size ∧ appSrc (T.und u) = true then some i.size else none
        | none => none
      | none => none
    | _ => none
  | _ => none

/-- An optional operand. -/
def opdO (sc : Sc) : Option Operand → Option (Option AVal)
  | none => some none
  | some x => (opd sc x).map some

def den1 (sc : Sc) (x : Operand) (f : AVal → Prim) : Prim := match opd sc x with | some a => f a | none => .bad
def den2 (sc : Sc) (x y : Operand) (f : AVal → AVal → Prim) : Prim := den1 sc x fun a => den1 sc y fun b => f a b
def den3 (sc : Sc) (x y z : Operand) (f : AVal → AVal → AVal → Prim) : Prim := den2 sc x y fun a b => den1 sc z fun c => f a b c
def denL (sc : Sc) (xs : List Operand) (f : List AVal → Prim) : Prim := match opds sc xs with | some l => f l | none => .bad
def orBad {α : Type} (o : Option α) (f : α → Prim) : Prim := match o with | some a => f a | none => .bad

/-- Where a struct's fields lie. -/
def placesA (T : Tab) : List Field → Option (List (Nat × Nat))
  | [] => some []
  | f :: fs => match T.size f.type, placesA T fs with | some sz, some l => some ((f.offset, sz) :: l) | _, _ => none
/-- Those of some numbers. -/
def placesS (pa : List (Nat × Nat)) : List Nat → Option (List (Nat × Nat))
  | [] => some []
  | i :: is => match pa[i]?, placesS pa is with | some p, some l => some (p :: l) | _, _ => none
def inside (z : List AVal) (pl : List (Nat × Nat)) : Bool := pl.all fun p => Nat.ble p.1 z.length
def repC (n : Nat) (z : List AVal) : List AVal := match n with | 0 => [] | n + 1 => z ++ repC n z
def methsOf (l : List (String × List Meth)) (m : String) : List Meth := match l with | [] => [] | (n, ms) :: r => if n = m then ms else methsOf r m
/-- An operation, as the machine has it. -/
noncomputable def denOp (T : Tab) (G : Glob) (sc : Sc) (o : Oper) : Prim :=
  match o.op with
  | .move x | .assign x => den1 sc x .mv
  | .pick x a b => den3 sc x a b fun x a b => .val (pPick x a b)
  | .alloc e => orBad (T.zeroL e) fun l => .new (newRow l)
  | .box _ x => den1 sc x fun x => .new (pBox x)
  | .build t ps => orBad (T.zeroL t) fun z => denL sc (ps.toList.map (·.2)) fun vs =>
    match T.und t with
    | some (.struct fs) => orBad (placesA T fs.toList) fun pa => orBad (placesS pa (ps.toList.map (·.1))) fun pl => match inside z pl with
      | true => .val (pBuild z pl vs)
      | false => .bad
    | some (.array _ e) => orBad (T.size e) fun sz => match inside z ((ps.toList.map (·.1)).map fun i => (i * sz, sz)) with
      | true => .val (pBuild z ((ps.toList.map (·.1)).map fun i => (i * sz, sz)) vs)
      | false => .bad
    | _ => .bad
  | .buildSlice t n ps => match T.und t with
    | some (.slice e) => match n, ps.toList with
     | 0, [] => orBad (T.size e) fun sz => match T.und e with
        | some (.int .u8) => match sz with
          | 1 => .new pBuildBytes0
          | _ => .bad
        | _ => .new (pBuildSlice0 sz)
     | _, _ => orBad (T.zeroL e) fun z => orBad (T.size e) fun sz => denL sc (ps.toList.map (·.2)) fun vs =>
      match Nat.beq z.length sz && Nat.ble 1 (n * sz) && Nat.ble (n * sz) 16777216 && inside (repC n z) ((ps.toList.map (·.1)).map fun i => (i * sz, sz)) with
      | true => match T.und e with
        | some (.int .u8) => match sz with
          | 1 => .new (pBuildBytes n (repC n z) ((ps.toList.map (·.1)).map fun i => (i * sz, sz)) vs)
          | _ => .bad
        | _ => .new (pBuildSlice sz n (repC n z) ((ps.toList.map (·.1)).map fun i => (i * sz, sz)) vs)
      | false => .bad
    | _ => .bad
  | .load t x => orBad (T.isAgg t) fun a => den1 sc x fun x => match a with
    | true => orBad (T.size t) fun n => .read (pLoadN n x)
    | false => .read (pLoad G x)
  | .store t a x => orBad (T.size t) fun n => den2 sc a x fun a x => .act fun _ => pStore n a x
  | .nilCheck x => den1 sc x fun x => .val (pNil x)
  | .binOp op t x y _ => orBad (binPrim T op t x y) fun p => den2 sc x y fun x y => .val (p x y)
  | .unOp op _ x => den1 sc x fun x => match op with
    | .not => .val (pNot x)
    | .neg => .val (pNeg x)
    | .xor => .val (pCom x)
    | _ => .bad
  | .convert a b x => den1 sc x fun x => match T.und a, T.und b with
    | some (.int _), some (.int k) => .val (pConv k x)
    | some (.slice e), some .string => match T.und e with | some (.int .u8) => .read (pConvBS x) | _ => .bad
    | some .string, some (.slice e) => match T.und e with | some (.int .u8) => .new (pConvSB x) | _ => .bad
    | some .string, some .string => .val (pMvS x)
    | _, _ => .bad
  | .makeInterface t x => den1 sc x fun x => match T.plain t with
    | true => .val (pMakeIface t x)
    | false => .bad
  | .makeFunc (.func f) first cap => denL sc (first.toList ++ cap.toList) fun vs => .val (pFunc f first.size vs)
  | .makeMap _ none => .new pMakeMap
  | .makeSlice t x y => match T.und t with
    | some (.slice e) => match T.und e with
      | some (.int .u8) => orBad (T.size e) fun sz => orBad (T.zero e) fun z => orBad (T.bytes e) fun bs => match sz, z, Nat.ble bs 268435456 with
        | 1, .int .u8 (.ofNat 0), true => den2 sc x y fun x y => .new (pMakeByt x y)
        | _, _, _ => .bad
      | _ => orBad (T.zeroL e) fun z => orBad (T.size e) fun sz => orBad (T.bytes e) fun bs => match Nat.beq z.length sz && Nat.ble 1 sz && Nat.ble bs 268435456 with
        | true => den2 sc x y fun x y => .new (pMakeRow z sz x y)
        | false => .bad
    | _ => .bad
  | .slice t x lo hi mx => den1 sc x fun x => orBad (opdO sc lo) fun lo => orBad (opdO sc hi) fun hi => match T.und t, mx with
    | some .string, none => .val (pSliceS lo hi x)
    | some (.slice e), none => orBad (T.size e) fun sz => .val (pSlice sz lo hi x)
    | some (.slice e), some m => orBad (T.size e) fun sz => den1 sc m fun m => match hi with
      | some h => .val (pSlice3 sz lo (some h) m x)
      | none => .bad
    | some (.array n e), none => orBad (T.size e) fun sz => .read (rSliceA n sz lo hi x)
    | _, _ => .bad
  | .fieldAddr t x f => match T.und t with
    | some (.struct fs) => match fs[f]? with
      | some fl => orBad (T.size fl.type) fun sz => match sz with
        | 0 => .bad
        | _ => den1 sc x fun x => .val (pFieldAddr fl.offset x)
      | none => .bad
    | _ => .bad
  | .field t x f => match T.und t with
    | some (.struct fs) => match fs[f]? with
      | some fl => den1 sc x fun x => orBad (T.isAgg fl.type) fun a => match a with
        | true => orBad (T.size fl.type) fun n => .val (pFieldN fl.offset n x)
        | false => .val (pField1 fl.offset x)
      | none => .bad
    | _ => .bad
  | .indexAddr t x i => den2 sc x i fun x i => match T.und t with
    | some (.slice e) => orBad (T.size e) fun sz => .val (pIndexAddr sz x i)
    | some (.array n e) => orBad (T.size e) fun sz => .val (pIndexAddrA n sz x i)
    | _ => .bad
  | .index t x i => match T.und t with
    | some .string => den2 sc x i fun x i => .val (pIndexStr x i)
    | _ => .bad
  | .lookup t m k ok => match T.und t with
    | some (.map _ e) => orBad (T.keyK t) fun ks => orBad (T.zeroV e) fun z => den2 sc m k fun m k => match ok with
      | true => .read (pLookupOk ks z m k)
      | false => .read (pLookup ks z m k)
    | _ => .bad
  | .mapUpdate t m k v | .insert t m k v => orBad (T.keyK t) fun ks => den3 sc m k v fun m k v => .act fun _ => pMapUpdate ks m k v
  | .mapEntry t m k => match T.und t with
    | some (.map _ e) => orBad (T.keyK t) fun ks => orBad (T.zeroV e) fun z => den2 sc m k fun m k => .act fun _ => pMapEntry ks z m k
    | _ => .bad
  | .entryStore _ m k v => den3 sc m k v fun m k v => .act fun _ => pEntryStore m k v
  | .range t x => match T.und t with
    | some (.map _ _) => den1 sc x fun x => .act fun _ => pRange x
    | _ => .bad
  | .next x false => den1 sc x fun x => .act fun _ => pNext x
  | .entry x => den1 sc x fun x => .read (pEntry x)
  | .typeAssert x _ a false => den1 sc x fun x => match T.plain a with
    | true => .val (pAssert a x)
    | false => .bad
  | .extract x i => den1 sc x fun x => .val (pExtract i x)
  | .call cl => denL sc cl.args.toList fun vs => match cl.callee with
    | .value (.func f) => .act fun rec => rec f vs
    | .value x => den1 sc x fun x => .act fun rec => pCallV rec x vs
    | .invoke x m => den1 sc x fun x => .act fun rec => pInvoke G (methsOf T.ms m) rec x vs
    | .builtin b => match b, (cl.argTypes[0]?).bind T.und, vs with
      | .len, some .string, [x] => .val (pLenS x)
      | .len, some (.slice _), [x] => .val (pLenSl x)
      | .len, some (.map _ _), [x] => .read (pLenM x)
      | .cap, some (.slice _), [x] => .val (pCap x)
      | .append, some (.slice _), [x, y] => orBad (T.app cl.argTypes) fun sz => .act fun _ => pAppend sz x y
      | .min, some (.int _), [x, y] => .val (pMin x y)
      | .max, some (.int _), [x, y] => .val (pMax x y)
      | .min, some (.int _), [x, y, z] => .val (pMin3 x y z)
      | .max, some (.int _), [x, y, z] => .val (pMax3 x y z)
      | .delete, some (.map _ _), [x, y] => orBad (T.keyK (cl.argTypes.getD 0 0)) fun ks => .act fun _ => pDelete ks x y
      | .clear, some (.slice e), [x] => orBad (T.zeroL e) fun l => match Nat.ble 1 l.length with
        | true => .act fun _ => pClear l x
        | false => .bad
      | _, _, _ => .bad
  | _ => .bad

end Go.Proofs.YtmgigdklcaepdaaGreatDoor.Ax
end
section
namespace Go.Proofs.YtmgigdklcaepdaaGreatDoor.Ax
set_option linter.unusedVariables false
set_option linter.unusedSimpArgs false

variable {P : Program} {T : Tab}

/-- A method's row is right. -/
def MethOk (P : Program) (name : String) (m : Meth) : Prop :=
  ∃ i mt ptr d, P.info? m.t = some i ∧ i.methods.find? (·.name == name) = some mt ∧ mt.path.isEmpty = true ∧ mt.func = some (m.f, ptr) ∧ P.underlying m.t = some d ∧
    match m.deref with
    | 0 => (match d with | .pointer _ => ptr = true | _ => ptr = false)
    | 1 => ptr = false ∧ ∃ e de, d = .pointer e ∧ P.underlying e = some de ∧ isAggD de = false
    | n + 2 => ptr = false ∧ ∃ e de ie, d = .pointer e ∧ P.underlying e = some de ∧ isAggD de = true ∧ P.info? e = some ie ∧ ie.size = n
structure TabOk (P : Program) (T : Tab) : Prop where
  ty : ∀ t i, T.ty.look t = some i → P.info? t = some i
  eq : ∀ t, T.eq.contains t = true → P.stoodInHeld t = false ∧ P.eqGuardType P.depth t = false
  ms : ∀ name m, m ∈ methsOf T.ms name → MethOk P name m

theorem TabOk.und (h : TabOk P T) {t : Nat} {d : TypeDesc} (hd : T.und t = some d) : P.underlying t = some d := by
  unfold Tab.und at hd
  unfold Program.underlying
  cases hl : T.ty.look t with
  | none => simp [hl] at hd
  | some i =>
    have hi := h.ty t i hl
    rw [hi]
    obtain ⟨desc, str, size, bytes, hp, al, fal, zero, cmp, ms⟩ := i
    cases desc <;> simp [hl] at hd ⊢ <;> try exact hd
    rename_i n u
    obtain ⟨j, hj, e⟩ := hd
    exact ⟨j, h.ty _ j hj, e⟩
theorem TabOk.info (h : TabOk P T) {t n : Nat} (hs : T.size t = some n) : ∃ i, P.info? t = some i ∧ i.size = n := by
  unfold Tab.size at hs
  cases hl : T.ty.look t with
  | none => simp [hl] at hs
  | some i => simp [hl] at hs; exact ⟨i, h.ty t i hl, hs⟩
theorem TabOk.bytes (h : TabOk P T) {t n : Nat} (hs : T.bytes t = some n) : ∃ i, P.info? t = some i ∧ i.bytes = n := by
  unfold Tab.bytes at hs
  cases hl : T.ty.look t with
  | none => simp [hl] at hs
  | some i => simp [hl] at hs; exact ⟨i, h.ty t i hl, hs⟩
theorem TabOk.agg (h : TabOk P T) {t : Nat} {b : Bool} (hs : T.isAgg t = some b) : ∃ d, P.underlying t = some d ∧ isAggD d = b := by
  unfold Tab.isAgg at hs
  cases hl : T.und t with
  | none => simp [hl] at hs
  | some d => simp [hl] at hs; exact ⟨d, h.und hl, hs⟩
theorem TabOk.zero (h : TabOk P T) {t : Nat} {z : Value} (hs : T.zero t = some z) : ∃ i, P.info? t = some i ∧ i.zero = some z := by
  unfold Tab.zero at hs
  cases hl : T.ty.look t with
  | none => simp [hl] at hs
  | some i => simp [hl] at hs; exact ⟨i, h.ty t i hl, hs⟩

theorem codeOf_list : ∀ (l : List UInt8), bytesOf l.length (l.foldr (fun x n => x.toNat + 256 * n) 0) = l ∧ l.foldr (fun x n => x.toNat + 256 * n) 0 < 256 ^ l.length := by
  intro l
  induction l with
  | nil => exact ⟨rfl, by decide⟩
  | cons x l ih =>
    obtain ⟨h1, h2⟩ := ih
    have hx : x.toNat < 256 := x.toNat_lt
    refine ⟨?_, ?_⟩
    · show UInt8.ofNat ((x.toNat + 256 * l.foldr (fun x n => x.toNat + 256 * n) 0) % 256) :: bytesOf l.length ((x.toNat + 256 * l.foldr (fun x n => x.toNat + 256 * n) 0) / 256) = x :: l
      have e1 : (x.toNat + 256 * l.foldr (fun x n => x.toNat + 256 * n) 0) % 256 = x.toNat := by omega
      have e2 : (x.toNat + 256 * l.foldr (fun x n => x.toNat + 256 * n) 0) / 256 = l.foldr (fun x n => x.toNat + 256 * n) 0 := by omega
      rw [e1, e2, h1, UInt8.ofNat_toNat]
    · show x.toNat + 256 * l.foldr (fun x n => x.toNat + 256 * n) 0 < 256 ^ (l.length + 1)
      rw [Nat.pow_succ]
      omega
theorem str_rel {ρ : Ren} (s : ByteArray) : VRel ρ (.str s.size (codeOf s)) (.string s) := by
  have h := codeOf_list s.data.toList
  have hl : s.data.toList.length = s.size := rfl
  rw [hl] at h
  have := VRel.str (ρ := ρ) (len := s.size) (code := codeOf s) h.2
  have e : (⟨(bytesOf s.size (codeOf s)).toArray⟩ : ByteArray) = s := by
    apply ByteArray.ext
    rw [show bytesOf s.size (codeOf s) = s.data.toList from h.1]
  rw [e] at this
  exact this

theorem cv0_ok {v : Value} {a : AVal} (h : cv0 v = some a) (ρ : Ren) : VRel ρ a v ∧ v.oneCell' = true := by
  unfold cv0 at h
  split at h <;> first | (injection h with h; subst h) | cases h
  · exact ⟨.mkV _ _, rfl⟩
  · exact ⟨.tt, rfl⟩
  · exact ⟨.ff, rfl⟩
  · exact ⟨str_rel _, rfl⟩
  · exact ⟨.ptr0, rfl⟩
  · exact ⟨.sl0, rfl⟩
  · exact ⟨.map0, rfl⟩
  · exact ⟨.fn0, rfl⟩
  · exact ⟨.if0, rfl⟩
theorem cvL_ok {vs : List Value} : ∀ {l : List AVal}, cvL vs = some l → ∀ ρ, LRel ρ l vs ∧ One vs := by
  induction vs with
  | nil => intro l h ρ; simp [cvL] at h; subst h; exact ⟨.nil, fun y hy => by cases hy⟩
  | cons v vs ih =>
    intro l h ρ
    unfold cvL at h
    split at h
    · rename_i a as h1 h2
      injection h with h; subst h
      obtain ⟨g1, g2⟩ := cv0_ok h1 ρ
      obtain ⟨g3, g4⟩ := ih h2 ρ
      exact ⟨.cons g1 g3, fun y hy => by rcases List.mem_cons.mp hy with e | e; exact e ▸ g2; exact g4 y e⟩
    · cases h
theorem cv_ok {v : Value} {a : AVal} (h : cv v = some a) (ρ : Ren) : VRel ρ a v := by
  unfold cv at h
  split at h
  · rename_i cs
    cases hl : cvL cs.toList with
    | none => simp [hl] at h
    | some l => simp [hl] at h; subst h; exact .aggL (cvL_ok hl ρ).1 (cvL_ok hl ρ).2
  · rename_i cs
    cases hl : cvL cs.toList with
    | none => simp [hl] at h
    | some l => simp [hl] at h; subst h; exact .tupleL (cvL_ok hl ρ).1
  · split at h
    · rename_i a c hac
      injection h with h; subst h
      have ha : a = #[] := Array.eq_empty_of_size_eq_zero hac.1
      have hc : c = #[] := Array.eq_empty_of_size_eq_zero hac.2
      subst ha hc
      exact .func rfl (fun i x y h => by simp at h) rfl (fun i x y h => by simp at h)
    · cases h
  · exact (cv0_ok h ρ).1

theorem TabOk.zeroL (h : TabOk P T) {t : Nat} {l : List AVal} (hs : T.zeroL t = some l) : ∃ i z, P.info? t = some i ∧ i.zero = some z ∧ (∀ ρ, LRel ρ l z.cells.toList) ∧ One z.cells.toList := by
  unfold Tab.zeroL at hs
  cases hz : T.zero t with
  | none => simp [hz] at hs
  | some z =>
    simp [hz] at hs
    obtain ⟨i, h1, h2⟩ := h.zero hz
    exact ⟨i, z, h1, h2, fun ρ => (cvL_ok hs ρ).1, (cvL_ok hs (fun _ => none)).2⟩
theorem TabOk.zeroV (h : TabOk P T) {t : Nat} {a : AVal} (hs : T.zeroV t = some a) : ∃ i z, P.info? t = some i ∧ i.zero = some z ∧ ∀ ρ, VRel ρ a z := by
  unfold Tab.zeroV at hs
  cases hz : T.zero t with
  | none => simp [hz] at hs
  | some z =>
    simp [hz] at hs
    obtain ⟨i, h1, h2⟩ := h.zero hz
    exact ⟨i, z, h1, h2, fun ρ => cv_ok hs ρ⟩

/-- What the temporaries hold. -/
def TRel (ρ : Ren) (sc : Sc) (tmps : Array Value) : Prop := ∀ t v, sc.get t = some v → ∃ cv, tmps[t]? = some cv ∧ VRel ρ v cv
theorem TRel.mono {ρ ρ' : Ren} (hle : ρ.le ρ') {sc : Sc} {tmps : Array Value} (h : TRel ρ sc tmps) : TRel ρ' sc tmps := fun t v hv => let ⟨cv, a, b⟩ := h t v hv; ⟨cv, a, b.mono hle⟩
theorem opd_ok {ρ : Ren} {sc : Sc} {a : Act} (h : TRel ρ sc a.tmps) {x : Operand} {v : AVal} (hx : opd sc x = some v) : VRel ρ v (a.eval x) := by
  cases x with
  | tmp t =>
    obtain ⟨cv, h1, h2⟩ := h t v hx
    simp only [Act.eval]
    rw [show a.tmps.getD t undef = cv by simp [h1]]
    exact h2
  | const c => exact cv_ok hx ρ
  | global g => simp [opd] at hx; subst hx; exact .gptr g 0
  | func f => simp [opd] at hx; subst hx; exact .func rfl (fun i x y h => by simp at h) rfl (fun i x y h => by simp at h)
theorem opds_ok {ρ : Ren} {sc : Sc} {a : Act} (h : TRel ρ sc a.tmps) {xs : List Operand} : ∀ {vs : List AVal}, opds sc xs = some vs → LRel ρ vs (xs.map a.eval) := by
  induction xs with
  | nil => intro vs hx; simp [opds] at hx; subst hx; exact .nil
  | cons x xs ih =>
    intro vs hx
    unfold opds at hx
    split at hx
    · rename_i b bs h1 h2
      injection hx with hx; subst hx
      exact .cons (opd_ok h h1) (ih h2)
    · cases hx
theorem opdO_ok {ρ : Ren} {sc : Sc} {a : Act} (h : TRel ρ sc a.tmps) {x : Option Operand} {v : Option AVal} (hx : opdO sc x = some v) : ORel ρ v (x.map a.eval) := by
  cases x with
  | none => simp [opdO] at hx; subst hx; trivial
  | some x =>
    simp [opdO] at hx
    obtain ⟨b, h1, h2⟩ := hx
    subst h2
    exact opd_ok h h1

/-- A temporary gets a value. -/
def Sc.put (n : Nat) (sc : Sc) (dst : Option Nat) (v : AVal) : Sc := match dst with | some d => if d < n then (d, v) :: sc else sc.filter (fun p => p.1 ≠ d) | none => sc
theorem TRel.put {ρ : Ren} {sc : Sc} {a : Act} {n : Nat} (h : TRel ρ sc a.tmps) (hn : a.tmps.size = n) (dst : Option Nat) {v : AVal} {cv : Value} (hv : VRel ρ v cv) : TRel ρ (sc.put n dst v) (a.put dst cv).tmps ∧ (a.put dst cv).tmps.size = n := by
  cases dst with
  | none => exact ⟨h, hn⟩
  | some d =>
    refine ⟨fun t u hu => ?_, by simp [Act.put, hn]⟩
    have hu' : Sc.get (if d < n then (d, v) :: sc else sc.filter (fun p => p.1 ≠ d)) t = some u := hu
    by_cases hd : d < n
    · rw [if_pos hd] at hu'
      have hu2 : (if d = t then some v else Sc.get sc t) = some u := hu'
      by_cases e : d = t
      · rw [if_pos e] at hu2
        injection hu2 with hu2
        subst hu2 e
        exact ⟨cv, by show (a.tmps.setIfInBounds d cv)[d]? = some cv; rw [Array.getElem?_setIfInBounds, if_pos rfl, if_pos (by omega)], hv⟩
      · rw [if_neg e] at hu2
        obtain ⟨c, h1, h2⟩ := h t u hu2
        exact ⟨c, by simp [Act.put]; rw [Array.getElem?_setIfInBounds_ne e]; exact h1, h2⟩
    · rw [if_neg hd] at hu'
      have key : ∀ (l : Sc), Sc.get (l.filter fun p => p.1 ≠ d) t = some u → t ≠ d ∧ Sc.get l t = some u := by
        intro l
        induction l with
        | nil => intro h; simp [Sc.get] at h
        | cons p l ih =>
          obtain ⟨q, x⟩ := p
          intro h
          rw [List.filter_cons] at h
          by_cases hq : q = d
          · rw [if_neg (by simpa using hq)] at h
            obtain ⟨g1, g2⟩ := ih h
            refine ⟨g1, ?_⟩
            show (if q = t then some x else Sc.get l t) = some u
            rw [if_neg (fun e => g1 (e.symm.trans hq))]
            exact g2
          · rw [if_pos (by simpa using hq)] at h
            have h2 : (if q = t then some x else Sc.get (l.filter fun p => p.1 ≠ d) t) = some u := h
            show _ ∧ (if q = t then some x else Sc.get l t) = some u
            by_cases e : q = t
            · rw [if_pos e] at h2 ⊢
              exact ⟨fun e2 => hq (e.trans e2), h2⟩
            · rw [if_neg e] at h2 ⊢
              exact ih h2
      obtain ⟨g1, g2⟩ := key sc hu'
      obtain ⟨c, h1, h2⟩ := h t u g2
      exact ⟨c, by simp [Act.put]; rw [Array.getElem?_setIfInBounds_ne (Ne.symm g1)]; exact h1, h2⟩

end Go.Proofs.YtmgigdklcaepdaaGreatDoor.Ax
end
section
namespace Go.Proofs.YtmgigdklcaepdaaGreatDoor.Ax
set_option linter.unusedVariables false
set_option linter.unusedSimpArgs false

variable {P : Program} {T : Tab}

def ValOk (P : Program) (sc : Sc) (o : Oper) (f : KP → Nat) : Prop :=
  ∀ kv, f kv = 1 → ∃ v, kv v = 1 ∧ ∀ w ρ (a : Act), TRel ρ sc a.tmps → ∃ cv, (execOp a.eval o).run P w = .ok (.value cv) w ∧ VRel ρ v cv
def MvOk (P : Program) (sc : Sc) (o : Oper) (v : AVal) : Prop := ∀ w ρ (a : Act), TRel ρ sc a.tmps → ∃ cv, (execOp a.eval o).run P w = .ok (.value cv) w ∧ VRel ρ v cv
def ReadOk (P : Program) (gl : Fixed) (sc : Sc) (o : Oper) (f : Heap → KP → Nat) : Prop :=
  ∀ H kv, f H kv = 1 → ∃ v, kv v = 1 ∧ ∀ w ρ (a : Act), HR gl H.f ρ w → TRel ρ sc a.tmps → ∃ cv, (execOp a.eval o).run P w = .ok (.value cv) w ∧ VRel ρ v cv
def NewOk (P : Program) (sc : Sc) (o : Oper) (f : Heap → K → Nat) : Prop :=
  ∀ H kv, f H kv = 1 → ∃ v ob H', kv v H' = 1 ∧ NewIn H ob H' ∧ ∀ w ρ (a : Act), ρ H.next = none → TRel ρ sc a.tmps →
    ∃ cv w' tot obj, (execOp a.eval o).run P w = .ok (.value cv) w' ∧ Push obj w w' ∧ ObjRel (ρ.set H.next ⟨w.heap.size, 0, tot⟩) w' ⟨w.heap.size, 0, tot⟩ ob ∧ VRel (ρ.set H.next ⟨w.heap.size, 0, tot⟩) v cv
/-- All known blocks lie below a number. -/
def Dom (ρ : Ren) (n : Nat) : Prop := ∀ b, n ≤ b → ρ b = none
theorem Dom.fresh {ρ : Ren} {n : Nat} (h : Dom ρ n) (n' : Nat) : Fresh ρ n n' := fun b a _ => h b a
/-- What an operation goes on with. -/
def Goes (P : Program) (gl : Fixed) (H H' : Heap) (v : AVal) (w : World) (ρ : Ren) (o : Oper) (a : Act) (r : Result Next) : Prop :=
  ∀ (next : Act → World → Prop) (Q : Exit → Act → World → Prop), (∀ cv ρ' w', Grow H.f ρ w H.next H'.f ρ' w' H'.next → HR gl H'.f ρ' w' → VRel ρ' v cv → next (a.put o.dst cv) w') → o.upon P a next Q r
/-- What is known of the functions that are called. -/
def RecOk (P : Program) (gl : Fixed) (rec : Rec) : Prop :=
  ∀ f vs H kv, rec f vs H kv = 1 → ∃ v H', kv v H' = 1 ∧ ∀ w ρ (cvs : Array Value), HR gl H.f ρ w → Dom ρ H.next → LRel ρ vs cvs.toList → ∀ o a, Goes P gl H H' v w ρ o a ((callFunc f cvs).run P w)
def ActOk (P : Program) (gl : Fixed) (sc : Sc) (o : Oper) (f : Rec → Heap → K → Nat) : Prop :=
  ∀ rec, RecOk P gl rec → ∀ H kv, f rec H kv = 1 → ∃ v H', kv v H' = 1 ∧ ∀ w ρ (a : Act), HR gl H.f ρ w → Dom ρ H.next → TRel ρ sc a.tmps → Goes P gl H H' v w ρ o a ((execOp a.eval o).run P w)
def PrimOk (P : Program) (gl : Fixed) (sc : Sc) (o : Oper) : Prim → Prop
  | .mv v => MvOk P sc o v
  | .val f => ValOk P sc o f
  | .read f => ReadOk P gl sc o f
  | .new f => NewOk P sc o f
  | .act f => ActOk P gl sc o f
  | .bad => True

theorem primOk_1 {gl : Fixed} {sc : Sc} {o : Oper} {x : Operand} {f : AVal → Prim} (h : ∀ v, opd sc x = some v → PrimOk P gl sc o (f v)) : PrimOk P gl sc o (den1 sc x f) := by
  unfold den1
  split
  · rename_i v hv; exact h v hv
  · trivial
theorem primOk_2 {gl : Fixed} {sc : Sc} {o : Oper} {x y : Operand} {f : AVal → AVal → Prim} (h : ∀ v u, opd sc x = some v → opd sc y = some u → PrimOk P gl sc o (f v u)) : PrimOk P gl sc o (den2 sc x y f) :=
  primOk_1 fun v hv => primOk_1 fun u hu => h v u hv hu
theorem primOk_3 {gl : Fixed} {sc : Sc} {o : Oper} {x y z : Operand} {f : AVal → AVal → AVal → Prim} (h : ∀ v u t, opd sc x = some v → opd sc y = some u → opd sc z = some t → PrimOk P gl sc o (f v u t)) : PrimOk P gl sc o (den3 sc x y z f) :=
  primOk_2 fun v u hv hu => primOk_1 fun t ht => h v u t hv hu ht
theorem primOk_L {gl : Fixed} {sc : Sc} {o : Oper} {xs : List Operand} {f : List AVal → Prim} (h : ∀ vs, opds sc xs = some vs → PrimOk P gl sc o (f vs)) : PrimOk P gl sc o (denL sc xs f) := by
  unfold denL
  split
  · rename_i v hv; exact h v hv
  · trivial
theorem primOk_o {α : Type} {gl : Fixed} {sc : Sc} {o : Oper} {x : Option α} {f : α → Prim} (h : ∀ v, x = some v → PrimOk P gl sc o (f v)) : PrimOk P gl sc o (orBad x f) := by
  unfold orBad
  split
  · exact h _ rfl
  · trivial

/-! the guard of an equality -/
theorem guard_ok {op : BinOp} {t : TypeId} {x y : Operand} {a b : Value} (w : World) (h1 : ¬ (a = .nilIface ∧ b = .nilIface) ∨ isNilIf x = true ∨ isNilIf y = true) (h2 : (∃ xs ys, a = .agg xs ∧ b = .agg ys) → P.eqGuardType P.depth t = false) :
    (eqGuard op t x y a b).run P w = .ok () w := by
  by_cases ha : ∃ xs ys, a = .agg xs ∧ b = .agg ys
  · obtain ⟨xs, ys, rfl, rfl⟩ := ha
    exact run_eqGuard_agg w op t x y xs ys (h2 ⟨xs, ys, rfl, rfl⟩)
  · unfold eqGuard
    by_cases hn : a = .nilIface ∧ b = .nilIface
    · obtain ⟨rfl, rfl⟩ := hn
      rcases h1 with h1 | h1
      · exact absurd ⟨rfl, rfl⟩ h1
      · rcases h1 with h1 | h1
        · cases x <;> simp [isNilIf] at h1 <;> cases op <;> simp
        · cases y <;> simp [isNilIf] at h1 <;> cases op <;> simp
    · cases a <;> cases b <;> first | (cases op <;> simp; done) | (exfalso; exact hn ⟨rfl, rfl⟩) | (exfalso; exact ha ⟨_, _, rfl, rfl⟩)

/-- An operation of two values whose guard is open. -/
theorem bin_val {gl : Fixed} {sc : Sc} {o : Oper} {op : BinOp} {t yt : TypeId} {x y : Operand} {v u : AVal} {f : KP → Nat} (ho : o.op = .binOp op t x y yt) (hv : opd sc x = some v) (hu : opd sc y = some u)
    (h : ∀ kv, f kv = 1 → ∃ r, kv r = 1 ∧ ∀ w ρ cx cy, VRel ρ v cx → VRel ρ u cy → (¬ (cx = .nilIface ∧ cy = .nilIface) ∨ isNilIf x = true ∨ isNilIf y = true) ∧ ((∃ xs ys, cx = .agg xs ∧ cy = .agg ys) → P.eqGuardType P.depth t = false) ∧
      ∃ cv, (binOp op t cx cy).run P w = .ok cv w ∧ VRel ρ r cv) : PrimOk P gl sc o (.val f) := by
  intro kv hk
  obtain ⟨r, h1, h2⟩ := h kv hk
  refine ⟨r, h1, fun w ρ a ht => ?_⟩
  obtain ⟨g1, g2, cv, g3, g4⟩ := h2 w ρ _ _ (opd_ok ht hv) (opd_ok ht hu)
  refine ⟨cv, ?_, g4⟩
  simp only [execOp, ho, Sem.run_bind, guard_ok w g1 g2, Result.andThen_ok, g3, Sem.run_pure]

end Go.Proofs.YtmgigdklcaepdaaGreatDoor.Ax
end

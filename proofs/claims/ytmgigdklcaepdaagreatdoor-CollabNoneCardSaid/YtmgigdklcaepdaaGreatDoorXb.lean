/-
  What stands in for two of the library's functions, and the package-level variables. · The abstract machine's parts, told without continuations.
-/
import Derived.Test.YtmgigdklcaepdaaGreatDoorXa
set_option linter.unusedVariables false
set_option linter.unusedSimpArgs false
section
namespace Go.Proofs.YtmgigdklcaepdaaGreatDoor.Ax
set_option linter.unusedVariables false
noncomputable def G : Glob := fun _ _ _ => 500
/-- A text, as it is. -/
noncomputable def pMvS (x : AVal) (kv : KP) : Nat := onStr x fun n c => kv (.str n c)
noncomputable def repS (c : Nat) : Nat → Nat → (Nat → Nat → Nat) → Nat :=
  Nat.rec (fun _ _ k => k 0 0) (fun _ ih n code k => ih n code fun l r => force (Nat.add n l) fun l' => force (Nat.add code (Nat.shiftLeft r (Nat.mul 8 n))) fun c => k l' c) c
noncomputable def hRepeat (vs : List AVal) (kv : KP) : Nat :=
  nth vs 0 fun x => nth vs 1 fun y => onStr x fun n code => onInt y fun _ c => natI c fun c => ifB (Nat.ble c 1000) (repS c n code fun l c => kv (.str l c)) 501
/-- The 256 numbers of the sum's table, four bytes each. -/
def crcT : Nat := 191781931866985559621651535760735696673856346713887891597305215034209910220001862487342664719235424489376241530245261416506414575980417952467156150107317449804134056257716516419112328720131160031456481696823125446157373092479201248890302123815375087579814780306302465238014574686590130429322061672822152808302584144548153239526865349163683956765968513272069020595772598256391810863039343892818777390988989484387641140032565380688427043259765038805963005205961532183550801462253286244137065761003679520439085992511812747153023950988237051482297475963397445683294857871623710491443494995887883262049609400235784616301914504614852100915093667425320505522569448617573499542922012206538552994923376999879042244179649278486539688567765080810044274289792776818305348943521622626710878290771699129542630700634428853941830696095884539637866540751870989118613898226745049792152623499445281592614081205541985653143393913751853573884386717370504757525450126884015918318526676861728753890367452704650663987939986219768247293259525516712103938189788961727671665583423846301460611946049409459047739687307696235742781609353855728368690241567495209394945831800246045226053014789794812648147087782064443448838513940732911263420963033260564074243893655912557635729647410566500980880275296686932139551470048159522442188851388406016990108609539131275206406529452392139356697170450224378375281123940131103967815428442222478921241843802992958207175757710557124203243943652857525217714700783116853765558053940146905689184430570662124197438683992896538427266983469967391681636142474704834532560212491641513769109191453119295486434232583946536159882324212284713050838488706228253289835044432504923553683244983660554148621837806481305441008673570324340892415493266799132762194172577680912505944139402575723473831901219655706623634449032441308172682686423497289006274475542693850888413509354855109888442809400614039731828034881315553093408757249612302925815547436960120920974901163960048042280802561087650605423221541518940157925281902321885507580234243366499257305095335897959299004866716736669236430206354864789374467091307116826402984124475471120986056028650311289461216452641219222976814212486281160700097480526596597474635034066400713689500662174516288603424994162219769371242282901951357062625582355266271642761008964271320703341335927815387129432557369825457457303399345465981718607329281771814792602549895867734643022520164827992332349645685502120161683551602918412611264947206183976960
noncomputable def crcN (n : Nat) : Nat → Nat → (Nat → Nat) → Nat :=
  Nat.rec (fun _ x k => k x) (fun _ ih code x k => force (Nat.xor (Nat.shiftRight x 8) (Nat.land (Nat.shiftRight crcT (Nat.mul 32 (Nat.land (Nat.xor x code) 255))) 4294967295)) fun x => ih (Nat.shiftRight code 8) x k) n
noncomputable def hSum (vs : List AVal) (H : Heap) (kv : KP) : Nat :=
  nth vs 0 fun v => srcCells 1 v H (fun _ cs => cellsStr cs fun n code => crcN n code 4294967295 fun x => force (Nat.xor x 4294967295) fun x => kv (.z (.int .u32 (.ofNat x))))
    (fun n code => crcN n code 4294967295 fun x => force (Nat.xor x 4294967295) fun x => kv (.z (.int .u32 (.ofNat x))))
/-- 'a[l:h]' of an array's address, the array known to be whole. -/
noncomputable def rSliceA (n sz : Nat) (lo hi : Option AVal) (x : AVal) (H : Heap) (kv : KP) : Nat :=
  onPtr x (fun b o => H.get b fun ob => onCells ob (fun es cnt _ _ => ifB (Nat.ble (Nat.add o (Nat.mul n sz)) (Nat.mul cnt es)) (pSliceA n sz lo hi x kv) 399) (fun m _ _ => ifB (Nat.ble (Nat.add o (Nat.mul n sz)) m) (pSliceA n sz lo hi x kv) 399)) (fun _ _ => 398)
noncomputable def pMin3 (x y z : AVal) (kv : KP) : Nat := pMin x y fun v => pMin v z kv
noncomputable def pMax3 (x y z : AVal) (kv : KP) : Nat := pMax x y fun v => pMax v z kv
/-- '[]T{}' -/
noncomputable def pBuildSlice0 (esz : Nat) (H : Heap) (kv : K) : Nat := H.new (.cells esz 0 true .lf) fun b H => kv (.sl b 0 0 esz (.ex 0)) H
noncomputable def pBuildBytes0 (H : Heap) (kv : K) : Nat := H.new (.bytes 0 0 true) fun b H => kv (.sl b 0 0 1 (.ex 0)) H
/-- 'make([]T, l, c)' -/
noncomputable def pMakeRow (zero : List AVal) (esz : Nat) (x y : AVal) (H : Heap) (kv : K) : Nat :=
  onInt x fun _ l => natI l fun l => onInt y fun _ c => natI c fun c => ifB (andB (Nat.ble l c) (Nat.ble c 1000000))
    (fillT zero c 0 .lf fun t => H.new (.cells esz c true t) fun b H => kv (.sl b 0 l esz (.ex c)) H) 443
noncomputable def pMakeByt (x y : AVal) (H : Heap) (kv : K) : Nat :=
  onInt x fun _ l => natI l fun l => onInt y fun _ c => natI c fun c => ifB (andB (Nat.ble l c) (Nat.ble c 1000000))
    (H.new (.bytes c 0 true) fun b H => kv (.sl b 0 l 1 (.ex c)) H) 443
/-- Those of the library's functions that have no Go text. -/
noncomputable def hIndexByte (vs : List AVal) (H : Heap) (k : K) : Nat :=
  A2 vs fun x y => onStr x fun n code => onInt y fun j c => natI c fun c => ifB (eqK j .u8) (ifB (Nat.ble c 255) (idxB n code c 0 fun i => mk .i64 i fun v => k v H) 483) 481
noncomputable def hMapsClone (vs : List AVal) (H : Heap) (k : K) : Nat := A1 vs fun v => pMapsClone v H k
/-- A heap lacks the block that another one makes next. -/
noncomputable def absent (H' H : Heap) (rest : Nat) : Nat := Heap.rec (fun t _ => Heap.rec (fun _ b => t.get b (fun _ => 497) rest) H) H'
noncomputable def absents (hs : List Heap) (H : Heap) (rest : Nat) : Nat := match hs with | [] => rest | h :: hs => absent h H (absents hs H rest)
noncomputable def mono (H H' : Heap) (rest : Nat) : Nat := Heap.rec (fun _ n => Heap.rec (fun _ m => ifB (Nat.ble n m) rest 496) H') H
end Go.Proofs.YtmgigdklcaepdaaGreatDoor.Ax
end
section
namespace Go.Proofs.YtmgigdklcaepdaaGreatDoor.Ax
set_option linter.unusedVariables false

theorem force_eq (n : Nat) (k : Nat → Nat) : force n k = k n := by cases n <;> rfl
theorem ifB_eq (b : Bool) (x y : Nat) : ifB b x y = if b then x else y := by cases b <;> rfl
theorem andB_eq (a b : Bool) : andB a b = (a && b) := by cases a <;> rfl
theorem orB_eq (a b : Bool) : orB a b = (a || b) := by cases a <;> rfl
theorem ifB_one {b : Bool} {x y : Nat} (h : ifB b x y = 1) : (b = true ∧ x = 1) ∨ (b = false ∧ y = 1) := by cases b <;> simp_all [ifB]
theorem ifB_true {b : Bool} {x y : Nat} (h : ifB b x y = 1) (hy : y ≠ 1) : b = true ∧ x = 1 := by cases b <;> simp_all [ifB]
theorem andB_true {a b : Bool} (h : andB a b = true) : a = true ∧ b = true := by cases a <;> simp_all [andB]
theorem orB_true {a b : Bool} (h : orB a b = true) : a = true ∨ b = true := by cases a <;> simp_all [orB]

/-! ### tries -/

theorem land3 (m : Nat) : Nat.land m 3 = m % 4 := by
  have := Nat.and_two_pow_sub_one_eq_mod m 2
  simpa using this
theorem shr2 (m : Nat) : Nat.shiftRight m 2 = m / 4 := by
  have := Nat.shiftRight_eq_div_pow m 2
  simpa using this

theorem dig4_eq (m x0 x1 x2 x3 : Nat) : dig4 m x0 x1 x2 x3 = if m % 4 = 0 then x0 else if m % 4 = 1 then x1 else if m % 4 = 2 then x2 else x3 := by
  unfold dig4
  rw [land3]
  have h : m % 4 < 4 := Nat.mod_lt _ (by decide)
  generalize m % 4 = r at *
  match r, h with
  | 0, _ => rfl
  | 1, _ => rfl
  | 2, _ => rfl
  | 3, _ => rfl

section
variable {α : Type}

def Trie.look : Trie α → Nat → Option α
  | .lf, _ => none
  | .nd v a b c d, n =>
    if n = 0 then v else
    if (n - 1) % 4 = 0 then a.look ((n - 1) / 4) else if (n - 1) % 4 = 1 then b.look ((n - 1) / 4) else if (n - 1) % 4 = 2 then c.look ((n - 1) / 4) else d.look ((n - 1) / 4)

theorem Trie.get_eq (t : Trie α) : ∀ (n : Nat) (k : α → Nat) (e : Nat), t.get n k e = match t.look n with | some v => k v | none => e := by
  induction t with
  | lf => intro n k e; rfl
  | nd v a b c d iha ihb ihc ihd =>
    intro n k e
    cases n with
    | zero => cases v <;> rfl
    | succ m =>
      show dig4 m (a.get _ k e) (b.get _ k e) (c.get _ k e) (d.get _ k e) = _
      simp only [dig4_eq, shr2, iha, ihb, ihc, ihd, Trie.look]
      simp only [Nat.add_sub_cancel, Nat.add_one_ne_zero, if_false]
      split
      · rfl
      · split
        · rfl
        · split <;> rfl

theorem Trie.get_one {t : Trie α} {n : Nat} {k : α → Nat} {e : Nat} (h : t.get n k e = 1) (he : e ≠ 1) : ∃ v, t.look n = some v ∧ k v = 1 := by
  rw [Trie.get_eq] at h
  split at h
  · exact ⟨_, ‹_›, h⟩
  · exact absurd h he

theorem divs {n m : Nat} (h : n ≠ 0) (h' : m ≠ 0) (hd : (m - 1) % 4 = (n - 1) % 4) : ((m - 1) / 4 = (n - 1) / 4) ↔ m = n := by omega

theorem Trie.mk_one (fuel : Nat) : ∀ {n : Nat} {v : α} {k : Trie α → Nat}, Trie.mk fuel n v k = 1 → ∃ t : Trie α, k t = 1 ∧ ∀ m, t.look m = if m = n then some v else none := by
  induction fuel with
  | zero => intro n v k h; exact absurd h (by show (2 : Nat) ≠ 1; decide)
  | succ f ih =>
    intro n v k h
    cases n with
    | zero =>
      refine ⟨_, h, fun m => ?_⟩
      simp only [Trie.look]
      by_cases hm : m = 0
      · simp [hm]
      · simp [hm]
    | succ n =>
      change dig4 n (Trie.mk f (Nat.shiftRight n 2) v _) (Trie.mk f (Nat.shiftRight n 2) v _) (Trie.mk f (Nat.shiftRight n 2) v _) (Trie.mk f (Nat.shiftRight n 2) v _) = 1 at h
      rw [dig4_eq, shr2] at h
      by_cases h0 : n % 4 = 0
      · rw [if_pos h0] at h
        obtain ⟨t, hk, ht⟩ := ih h
        refine ⟨_, hk, fun m => ?_⟩
        simp only [Trie.look, ht]
        by_cases hm : m = 0
        · simp [hm]
        · by_cases e : (m - 1) % 4 = 0
          · have := divs (n := n + 1) (m := m) (by omega) hm (by omega); simp only [Nat.add_sub_cancel] at this; simp [hm, e, this]
          · have : m ≠ n + 1 := by omega
            simp [hm, e, this]
      · rw [if_neg h0] at h
        by_cases h1 : n % 4 = 1
        · rw [if_pos h1] at h
          obtain ⟨t, hk, ht⟩ := ih h
          refine ⟨_, hk, fun m => ?_⟩
          simp only [Trie.look, ht]
          by_cases hm : m = 0
          · simp [hm]
          · by_cases e : (m - 1) % 4 = 1
            · have := divs (n := n + 1) (m := m) (by omega) hm (by omega); simp only [Nat.add_sub_cancel] at this; simp [hm, e, this]
            · have : m ≠ n + 1 := by omega
              simp [hm, e, this]
        · rw [if_neg h1] at h
          by_cases h2 : n % 4 = 2
          · rw [if_pos h2] at h
            obtain ⟨t, hk, ht⟩ := ih h
            refine ⟨_, hk, fun m => ?_⟩
            simp only [Trie.look, ht]
            by_cases hm : m = 0
            · simp [hm]
            · by_cases e : (m - 1) % 4 = 2
              · have := divs (n := n + 1) (m := m) (by omega) hm (by omega); simp only [Nat.add_sub_cancel] at this; simp [hm, e, this]
              · have : m ≠ n + 1 := by omega
                simp [hm, e, this]
          · rw [if_neg h2] at h
            obtain ⟨t, hk, ht⟩ := ih h
            refine ⟨_, hk, fun m => ?_⟩
            simp only [Trie.look, ht]
            by_cases hm : m = 0
            · simp [hm]
            · by_cases e : (m - 1) % 4 = 3
              · have := divs (n := n + 1) (m := m) (by omega) hm (by omega); simp only [Nat.add_sub_cancel] at this; simp [hm, e, this]
              · have : m ≠ n + 1 := by omega
                simp only [hm, this, if_false]
                split
                · rfl
                · split
                  · rfl
                  · split
                    · rfl
                    · omega

theorem Trie.ins_one (t : Trie α) : ∀ {n : Nat} {v : α} {k : Trie α → Nat}, t.ins n v k = 1 → ∃ t' : Trie α, k t' = 1 ∧ ∀ m, t'.look m = if m = n then some v else t.look m := by
  induction t with
  | lf =>
    intro n v k h
    obtain ⟨t, hk, ht⟩ := Trie.mk_one 40 h
    exact ⟨t, hk, fun m => by rw [ht]; rfl⟩
  | nd w a b c d iha ihb ihc ihd =>
    intro n v k h
    cases n with
    | zero =>
      refine ⟨_, h, fun m => ?_⟩
      simp only [Trie.look]
      by_cases hm : m = 0
      · simp [hm]
      · simp [hm]
    | succ n =>
      change dig4 n (a.ins (Nat.shiftRight n 2) v _) (b.ins (Nat.shiftRight n 2) v _) (c.ins (Nat.shiftRight n 2) v _) (d.ins (Nat.shiftRight n 2) v _) = 1 at h
      rw [dig4_eq, shr2] at h
      by_cases h0 : n % 4 = 0
      · rw [if_pos h0] at h
        obtain ⟨t, hk, ht⟩ := iha h
        refine ⟨_, hk, fun m => ?_⟩
        simp only [Trie.look, ht]
        by_cases hm : m = 0
        · simp [hm]
        · by_cases e : (m - 1) % 4 = 0
          · have := divs (n := n + 1) (m := m) (by omega) hm (by omega); simp only [Nat.add_sub_cancel] at this; simp [hm, e, this]
          · have : m ≠ n + 1 := by omega
            simp [hm, e, this]
      · rw [if_neg h0] at h
        by_cases h1 : n % 4 = 1
        · rw [if_pos h1] at h
          obtain ⟨t, hk, ht⟩ := ihb h
          refine ⟨_, hk, fun m => ?_⟩
          simp only [Trie.look, ht]
          by_cases hm : m = 0
          · simp [hm]
          · by_cases e : (m - 1) % 4 = 1
            · have := divs (n := n + 1) (m := m) (by omega) hm (by omega); simp only [Nat.add_sub_cancel] at this; simp [hm, e, this]
            · have : m ≠ n + 1 := by omega
              simp [hm, e, this]
        · rw [if_neg h1] at h
          by_cases h2 : n % 4 = 2
          · rw [if_pos h2] at h
            obtain ⟨t, hk, ht⟩ := ihc h
            refine ⟨_, hk, fun m => ?_⟩
            simp only [Trie.look, ht]
            by_cases hm : m = 0
            · simp [hm]
            · by_cases e : (m - 1) % 4 = 2
              · have := divs (n := n + 1) (m := m) (by omega) hm (by omega); simp only [Nat.add_sub_cancel] at this; simp [hm, e, this]
              · have : m ≠ n + 1 := by omega
                simp [hm, e, this]
          · rw [if_neg h2] at h
            obtain ⟨t, hk, ht⟩ := ihd h
            refine ⟨_, hk, fun m => ?_⟩
            simp only [Trie.look, ht]
            by_cases hm : m = 0
            · simp [hm]
            · by_cases e : (m - 1) % 4 = 3
              · have := divs (n := n + 1) (m := m) (by omega) hm (by omega); simp only [Nat.add_sub_cancel] at this; simp [hm, e, this]
              · have : m ≠ n + 1 := by omega
                simp only [hm, this, if_false]
                split
                · rfl
                · split
                  · rfl
                  · split
                    · rfl
                    · omega
end

/-! ### numbers -/

/-- A number of a kind as a value. -/
def mkV (k : IntKind) (n : Int) : AVal :=
  match k, n with
  | .i64, .ofNat m => .n m
  | k, n => .z (.int k n)
theorem mk_eq (k : IntKind) (n : Int) (kv : KP) : mk k n kv = kv (mkV k n) := by cases n <;> cases k <;> rfl

/-- A whole number's kind and value. -/
def AVal.int? : AVal → Option (IntKind × Int)
  | .n m => some (.i64, .ofNat m)
  | .z (.int k n) => some (k, n)
  | _ => none
theorem onInt_eq (v : AVal) (k : IntKind → Int → Nat) : onInt v k = match AVal.int? v with | some (j, n) => k j n | none => 301 := by
  cases v with
  | z o => cases o <;> rfl
  | _ => rfl
theorem onInt_one {v : AVal} {k : IntKind → Int → Nat} (h : onInt v k = 1) : ∃ j n, AVal.int? v = some (j, n) ∧ k j n = 1 := by
  rw [onInt_eq] at h
  split at h
  · exact ⟨_, _, ‹_›, h⟩
  · cases h
theorem onN_one {v : AVal} {k : Nat → Nat} {e : Nat} (h : onN v k e = 1) : (∃ m, v = .n m ∧ k m = 1) ∨ e = 1 := by
  cases v with
  | n m => exact .inl ⟨m, rfl, h⟩
  | _ => exact .inr h
theorem natI_one {n : Int} {k : Nat → Nat} (h : natI n k = 1) : ∃ m : Nat, n = .ofNat m ∧ k m = 1 := by
  cases n with
  | ofNat m => exact ⟨m, rfl, h⟩
  | negSucc m => cases h

theorem modOf_eq (k : IntKind) : (modOf k : Int) = (2 : Int) ^ k.bits := by cases k <;> rfl
theorem hiOf_eq (k : IntKind) : (hiOf k : Int) = k.max := by cases k <;> rfl
theorem bitsOf_eq (k : IntKind) : bitsOf k = k.bits := by cases k <;> rfl
theorem eqK_true {a b : IntKind} (h : eqK a b = true) : a = b := by cases a <;> cases b <;> first | rfl | (revert h; decide +kernel)

theorem wrap_mod (k : IntKind) (m : Nat) (h : m < modOf k) : k.wrap m = if m ≤ hiOf k then (m : Int) else .negSucc (modOf k - 1 - m) := by
  by_cases hm : m ≤ hiOf k
  · rw [if_pos hm]
    cases k <;> simp only [modOf, hiOf] at * <;> simp [IntKind.wrap, IntKind.bits, IntKind.signed] <;> omega
  · rw [if_neg hm]
    cases k <;> simp only [modOf, hiOf] at * <;> simp [IntKind.wrap, IntKind.bits, IntKind.signed] <;> omega
theorem backI_eq (k : IntKind) (m : Nat) (h : m < modOf k) (c : Int → Nat) : backI k m c = c (k.wrap m) := by
  unfold backI
  rw [ifB_eq, force_eq, wrap_mod k m h]
  by_cases hm : m ≤ hiOf k
  · simp [hm]
  · have : Nat.ble m (hiOf k) = false := by rw [← Bool.not_eq_true, Nat.ble_eq]; exact hm
    simp [hm, this]
theorem modOf_pos (k : IntKind) : 0 < modOf k := by cases k <;> decide +kernel
theorem wrap_add (k : IntKind) (n : Int) (q : Int) : k.wrap (n + q * modOf k) = k.wrap n := by
  unfold IntKind.wrap
  rw [← modOf_eq, Int.add_mul_emod_self_right]
theorem wrapN_eq (k : IntKind) (m : Nat) (c : Int → Nat) : wrapN k m c = c (k.wrap m) := by
  unfold wrapN
  rw [ifB_eq, force_eq, force_eq]
  show (if Nat.ble m (hiOf k) = true then c (Int.ofNat m) else backI k (m % modOf k) c) = _
  rw [backI_eq k _ (Nat.mod_lt _ (modOf_pos k))]
  by_cases hm : m ≤ hiOf k
  · have hlt : m < modOf k := by
      have : hiOf k < modOf k := by cases k <;> decide +kernel
      omega
    have hb : Nat.ble m (hiOf k) = true := by simpa [Nat.ble_eq] using hm
    rw [if_pos hb, wrap_mod k m hlt, if_pos hm]; rfl
  · have hb : Nat.ble m (hiOf k) = false := by rw [← Bool.not_eq_true, Nat.ble_eq]; exact hm
    rw [if_neg (by simp [hb])]
    congr 1
    have := wrap_add k ((m % modOf k : Nat) : Int) ((m / modOf k : Nat) : Int)
    rw [← this]
    congr 1
    have h2 := Nat.mod_add_div m (modOf k)
    have : ((m % modOf k : Nat) : Int) + ((m / modOf k : Nat) : Int) * (modOf k : Int) = (m : Int) := by
      rw [Int.mul_comm]; exact_mod_cast h2
    exact this
theorem wrapM_eq (k : IntKind) (m : Nat) (c : Int → Nat) : wrapM k m c = c (k.wrap (.negSucc m)) := by
  unfold wrapM
  have hp := modOf_pos k
  have hr : modOf k - 1 - m % modOf k < modOf k := by omega
  have key : k.wrap (.negSucc m) = k.wrap ((modOf k - 1 - m % modOf k : Nat) : Int) := by
    have := wrap_add k (.negSucc m) ((m / modOf k : Nat) + 1 : Int)
    rw [← this]
    congr 1
    have h1 : m % modOf k < modOf k := Nat.mod_lt _ hp
    have h2 := Nat.mod_add_div m (modOf k)
    have h3 : ((m % modOf k : Nat) : Int) + (modOf k : Int) * ((m / modOf k : Nat) : Int) = (m : Int) := by exact_mod_cast h2
    rw [Int.negSucc_eq, Int.add_mul, Int.one_mul, Int.mul_comm _ (modOf k : Int)]
    omega
  rw [ifB_eq, force_eq, force_eq, andB_eq]
  by_cases hm : (sgOf k && Nat.ble m (hiOf k)) = true
  · rw [if_pos hm]
    congr 1
    simp only [Bool.and_eq_true] at hm
    have hle : m ≤ hiOf k := Nat.le_of_ble_eq_true hm.2
    rw [key, wrap_mod k _ hr]
    have h2 : modOf k = 2 * (hiOf k + 1) := by cases k <;> first | rfl | exact absurd hm.1 (by decide)
    rw [Nat.mod_eq_of_lt (by omega), if_neg (by omega)]
    congr 1
    omega
  · rw [if_neg hm]
    show backI k _ c = _
    rw [show (Nat.sub (Nat.sub (modOf k) 1) (Nat.mod m (modOf k))) = modOf k - 1 - m % modOf k from rfl, backI_eq k _ hr, key]
theorem wrapI_eq (k : IntKind) (n : Int) (c : Int → Nat) : wrapI k n c = c (k.wrap n) := by
  cases n with
  | ofNat m => exact wrapN_eq k m c
  | negSucc m => exact wrapM_eq k m c
theorem wr_eq (k : IntKind) (kv : KP) (n : Int) : wr k kv n = kv (mkV k (k.wrap n)) := by unfold wr; rw [wrapI_eq, mk_eq]
theorem wrn_eq (k : IntKind) (kv : KP) (n : Nat) : wrn k kv n = kv (mkV k (k.wrap n)) := by unfold wrn; rw [wrapN_eq, mk_eq]
theorem leI_eq (a b : Int) : leI a b = decide (a ≤ b) := by
  cases a with
  | ofNat x => cases b with
    | ofNat y => show Nat.ble x y = decide ((x : Int) ≤ (y : Int)); rw [Bool.eq_iff_iff, decide_eq_true_iff, Nat.ble_eq]; omega
    | negSucc y => show false = decide ((x : Int) ≤ Int.negSucc y); symm; rw [decide_eq_false_iff_not]; omega
  | negSucc x => cases b with
    | ofNat y => show true = decide (Int.negSucc x ≤ (y : Int)); symm; rw [decide_eq_true_iff]; omega
    | negSucc y => show Nat.ble y x = decide (Int.negSucc x ≤ Int.negSucc y); rw [Bool.eq_iff_iff, decide_eq_true_iff, Nat.ble_eq]; omega
theorem eqI_eq (a b : Int) : eqI a b = (a == b) := by
  cases a with
  | ofNat x => cases b with
    | ofNat y => show Nat.beq x y = ((x : Int) == (y : Int)); rw [Bool.eq_iff_iff, Nat.beq_eq, beq_iff_eq]; omega
    | negSucc y => show false = ((x : Int) == Int.negSucc y); symm; rw [beq_eq_false_iff_ne]; omega
  | negSucc x => cases b with
    | ofNat y => show false = (Int.negSucc x == (y : Int)); symm; rw [beq_eq_false_iff_ne]; omega
    | negSucc y => show Nat.beq x y = (Int.negSucc x == Int.negSucc y); rw [Bool.eq_iff_iff, Nat.beq_eq, beq_iff_eq]; omega
theorem forceI_eq (n : Int) (k : Int → Nat) : forceI n k = k n := by cases n <;> simp [forceI, force_eq]
theorem addI_eq (k : IntKind) (kv : KP) (a b : Int) : addI k kv a b = kv (mkV k (k.wrap (a + b))) := by
  cases a with
  | ofNat x => cases b with
    | ofNat y => simp only [addI, wrn_eq]; rfl
    | negSucc y => simp only [addI, wr_eq]; rfl
  | negSucc x => simp only [addI, wr_eq]; rfl
theorem subI_eq (k : IntKind) (kv : KP) (a b : Int) : subI k kv a b = kv (mkV k (k.wrap (a - b))) := by
  cases a with
  | ofNat x => cases b with
    | ofNat y =>
      simp only [subI, ifB_eq, wrn_eq, wr_eq]
      by_cases h : y ≤ x
      · rw [if_pos (by simpa [Nat.ble_eq] using h)]
        congr 3
        show ((x - y : Nat) : Int) = (x : Int) - (y : Int)
        omega
      · rw [if_neg (by simpa [Nat.ble_eq] using h)]; rfl
    | negSucc y => simp only [subI, wr_eq]; rfl
  | negSucc x => simp only [subI, wr_eq]; rfl
theorem mulI_eq (k : IntKind) (kv : KP) (a b : Int) : mulI k kv a b = kv (mkV k (k.wrap (a * b))) := by
  cases a with
  | ofNat x => cases b with
    | ofNat y => simp only [mulI, wrn_eq]; rfl
    | negSucc y => simp only [mulI, wr_eq]; rfl
  | negSucc x => simp only [mulI, wr_eq]; rfl
theorem quoI_eq (k : IntKind) (kv : KP) (a b : Int) : quoI k kv a b = kv (mkV k (k.wrap (a.tdiv b))) := by
  cases a with
  | ofNat x => cases b with
    | ofNat y => simp only [quoI, wrn_eq]; rfl
    | negSucc y => simp only [quoI, wr_eq]
  | negSucc x => simp only [quoI, wr_eq]
theorem remI_eq (k : IntKind) (kv : KP) (a b : Int) : remI k kv a b = kv (mkV k (a.tmod b)) := by
  cases a with
  | ofNat x => cases b with
    | ofNat y => simp only [remI, force_eq, mk_eq]; rfl
    | negSucc y => simp only [remI, forceI_eq, mk_eq]
  | negSucc x => simp only [remI, forceI_eq, mk_eq]
theorem resI_one {k : IntKind} {n : Int} {c : Nat → Nat} (h : resI k n c = 1) : (BitVec.ofInt k.bits n).toNat < modOf k ∧ c (BitVec.ofInt k.bits n).toNat = 1 := by
  have hm := modOf_eq k
  cases n with
  | ofNat m =>
    simp only [resI] at h
    obtain ⟨hb, h⟩ := ifB_true h (by decide)
    have hlt : m < modOf k := Nat.le_of_ble_eq_true hb
    have e : (BitVec.ofInt k.bits (Int.ofNat m)).toNat = m := by
      rw [BitVec.toNat_ofInt]
      have : ((2 ^ k.bits : Nat) : Int) = (modOf k : Int) := by rw [hm]; norm_cast
      rw [this]
      show ((m : Int) % (modOf k : Int)).toNat = m
      rw [Int.emod_eq_of_lt (by omega) (by omega)]
      rfl
    rw [e]; exact ⟨hlt, h⟩
  | negSucc m =>
    simp only [resI] at h
    obtain ⟨hb, h⟩ := ifB_true h (by decide)
    rw [force_eq] at h
    have hlt : m < modOf k := Nat.le_of_ble_eq_true hb
    have e : (BitVec.ofInt k.bits (Int.negSucc m)).toNat = modOf k - 1 - m := by
      rw [BitVec.toNat_ofInt]
      have : ((2 ^ k.bits : Nat) : Int) = (modOf k : Int) := by rw [hm]; norm_cast
      rw [this]
      have e2 : (Int.negSucc m) % (modOf k : Int) = ((modOf k - 1 - m : Nat) : Int) := by
        have : Int.negSucc m = ((modOf k - 1 - m : Nat) : Int) + (-1) * (modOf k : Int) := by omega
        rw [this, Int.add_mul_emod_self_right, Int.emod_eq_of_lt (by omega) (by omega)]
      rw [e2]; rfl
    rw [e]; exact ⟨by omega, h⟩

end Go.Proofs.YtmgigdklcaepdaaGreatDoor.Ax
end

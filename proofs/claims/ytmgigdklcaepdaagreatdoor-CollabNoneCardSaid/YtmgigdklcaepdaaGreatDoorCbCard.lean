/-
  CollabNone answers true for every call (it takes no argument): the card. Conditions: as its row says (package-level variables as the program's text lays them).
-/
import Derived.Test.YtmgigdklcaepdaaGreatDoorCards
import Derived.SevenTiedAt
import Derived.Test.YtmgigdklcaepdaaGreatDoorCbRow
import Derived.Test.YtmgigdklcaepdaaGreatDoorTieB2
set_option linter.unusedVariables false
set_option linter.unusedSimpArgs false
namespace Go.Proofs.YtmgigdklcaepdaaGreatDoor.collabNone
open Go
theorem wfT : Rows.collabNoneRow.wfByText (OpenSpec.ofChange Rows.collabNoneSpec) = true := by kernel_rfl
theorem mainT : Tryz.pinned.checked.prog.mainIs = some (true, "9eb7be00cbd767bbbd81ca9c1c8755db3a0d6e38e395c4ed20247b1fa3edfba8".toList) := by kernel_rfl
theorem looksT : true = Tryz.pinned.checked.prog.looks [] := by kernel_rfl
theorem noneGoes : Tryz.pinned.checked.prog.funcs.any Func.goes = false := by kernel_rfl
theorem goes_of {P : Program} (h : P.funcs.any Func.goes = false) (f : FuncId) : P.goes f = false := by
  have h' : ∀ (g : Nat) fn, P.funcs[g]? = some fn → Func.goes fn = false := fun g fn hg => by
    obtain ⟨hlt, e⟩ := Array.getElem?_eq_some_iff.1 hg
    cases hb : Func.goes fn with
    | false => rfl
    | true =>
      have : P.funcs.any Func.goes = true := Array.any_eq_true.2 ⟨g, hlt, by rw [e]; exact hb⟩
      rw [h] at this; cases this
  have h2 : (P.closure f).any (fun g => (P.funcs[g]?).any Func.goes) = false := by
    rw [Bool.eq_false_iff]
    intro ha
    obtain ⟨g, _, hg⟩ := List.any_eq_true.1 ha
    cases e : P.funcs[g]? with
    | none => rw [e] at hg; cases hg
    | some fn => rw [e] at hg; have := h' g fn e; simp only [Option.any_some] at hg; rw [this] at hg; cases hg
  unfold Program.goes
  rw [h, h2, Bool.and_false]; rfl
theorem goesBy_of {P : Program} {c : OpenClaim} {f : FuncId} (hn : P.funcNamed c.func = some f) (hs : c.start = .entering) (h : P.funcs.any Func.goes = false) : false = c.goesBy P := by
  unfold OpenClaim.goesBy Program.goesAt Program.goesFrom
  rw [hn, hs, Option.any_some, goes_of h]; rfl
theorem goesT : false = Rows.collabNoneRow.goesBy Tryz.pinned.checked.prog := goesBy_of named rfl noneGoes
theorem card_holds : Rows.CollabNoneCardSaid :=
  Claim7.holds_tied_plain_at .later [] [.sentinel, .sentinel, .data, .data, .data, .pinned, .data] true (true, "9eb7be00cbd767bbbd81ca9c1c8755db3a0d6e38e395c4ed20247b1fa3edfba8") true
    proved (fun _ h => by cases h) wfT (fun _ h => by cases h) tieOwn.row_tie rfl ⟨rfl, rfl⟩ mainT rfl
    (fun f fn hf hfn => by
      obtain rfl : f = 4 := Option.some.inj (named.symm.trans hf) |>.symm
      obtain rfl : fn = Tryz.f4 := (Option.some.inj (Tryz.func4.symm.trans hfn)).symm
      exact ⟨looksT, fun j t ht => by
        rw [Tryz.params4] at ht
        simp at ht⟩)
    goesT
#print axioms card_holds
end Go.Proofs.YtmgigdklcaepdaaGreatDoor.collabNone

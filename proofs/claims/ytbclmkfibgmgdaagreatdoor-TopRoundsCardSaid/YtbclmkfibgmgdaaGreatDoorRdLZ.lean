/- TopRounds returns true at every input, and its input reads as it did: the tied card. Conditions: none. -/
import Derived.Test.YtbclmkfibgmgdaaGreatDoorRdLW
import Derived.Test.YtbclmkfibgmgdaaGreatDoorRdLZA
import Derived.Test.YtbclmkfibgmgdaaGreatDoorCards
import Derived.Test.YtbclmkfibgmgdaaGreatDoorTie
import Derived.SevenTiedAt
namespace Go.Proofs.YtbclmkfibgmgdaaGreatDoor.topRounds
open Go
set_option maxRecDepth 1000000
theorem card : Rows.TopRoundsCardSaid :=
  Claim7.holds_tied_plain_at .later [] [.data, .data, .data, .data, .sentinel, .sentinel, .pinned] true (true, "7b5cf162ff2b02afc6fb694b6f8920936ed6b02e385fa031c82b17c1f316ba31") true
    said (fun _ h => by cases h) cW (fun _ h => by cases h) topRounds_row_tie rfl ⟨rfl, rfl⟩ cM rfl
    (fun f fn hf hfn => by
      obtain rfl : f = 3 := Option.some.inj (cA.symm.trans hf) |>.symm
      obtain rfl : fn = Tryz.f3 := (Option.some.inj (Tryz.func3.symm.trans hfn)).symm
      exact ⟨cL, fun j t ht => by
        rw [Tryz.params3] at ht
        have h3 : t = 22 := by
          rcases j with _ | _ | j
          · simpa using ht.symm
          · simpa using ht.symm
          · simp at ht
        subst h3
        exact cB⟩)
    cG
end Go.Proofs.YtbclmkfibgmgdaaGreatDoor.topRounds
namespace Go.Proofs.YtbclmkfibgmgdaaGreatDoor
/-- TopRounds: the tied card. -/
theorem topRounds_card : Rows.TopRoundsCardSaid := topRounds.card
#print axioms topRounds_card
end Go.Proofs.YtbclmkfibgmgdaaGreatDoor

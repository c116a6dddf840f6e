/-
  No cell of these rows narrows 'for every input' (looked for: loops, veiled, ifaces, maps, wideKeys, modest, calm, conditions, laid).
  DERIVED. THE GIVEN ROWS OF THIS SEAT. 10 by the template 'for every input the law returns true; each argument reads behind the call as it read before'; 0 by the template 'total and deterministic' (their statements: YtaljgjnnpallpaaGreatTotals.lean).
  GIVEN WITH THE SEED: the statements are not yours to turn. If you find one false, say at which input.
  Laid BY PROGRAM, IN A SANDBOX (cutbox-rows.mjs): the forced cells as the released guide's own fill.sh prints them over the translation 4eea53d2eb090fea… (all of the seat's roots in one cut). By AI agents, Wed Nov 11 2026. No macro, syntax, notation, axiom, sorry.
-/
import Derived.Test.YtaljgjnnpallpaaGreatChecked
import GoSem.Claim
import GoSem.ClaimJoined
import GoSem.ClaimMapViews
import Derived.JoinedTies
import Derived.KernelRfl
namespace Go.Proofs.YtaljgjnnpallpaaGreat
/- THE CELL 'sum', in the pinned program and in every row, IS THE sha256 OF THE DUMP (.gsa) THAT YtaljgjnnpallpaaGreatProg.lean LOADS. Nothing in Lean hashes anything: it is a label: what it is worth is what the hold of that sum in a sandbox is worth. -/
noncomputable def Tryz.pinned : Pinned := { name := "ytaljgjnnpallpaagreat", sum := "4eea53d2eb090feab4ea4f6040d20ac107fa19fa209c441880012ef652c43325", checked := Tryz.checked }
namespace Rows
def none {H : Type} : Left H := { results := [], args := [] }

/-- 'privatefetchlaw27.SymbolValues': WHATEVER THE INPUT: true; the input reads as it did. -/
def symbolValuesSpec : ChangeSpec := { name := "symbolValues", fn := fun _ => fun
  | [d] => { results := [.lit (.bool true)], args := [d] }
  | _ => none }
def symbolValuesRow : OpenClaim := { program := "ytaljgjnnpallpaagreat", sum := "4eea53d2eb090feab4ea4f6040d20ac107fa19fa209c441880012ef652c43325", func := "privatefetch/privatefetchlaw27.SymbolValues", spec := "symbolValues", unfollowed := true, recurses := true, apart := false }
def SymbolValuesSaid : Prop := symbolValuesRow.holds Tryz.pinned (OpenSpec.ofChange symbolValuesSpec)

/-- ITS FALSE NEIGHBOUR: 'it returns false'. Refute it at one input. -/
def symbolValuesWrong : ChangeSpec := { name := "symbolValues", fn := fun _ => fun
  | [d] => { results := [.lit (.bool false)], args := [d] }
  | _ => none }
def SymbolValuesWrongFalsely : Prop := symbolValuesRow.holds Tryz.pinned (OpenSpec.ofChange symbolValuesWrong)

/-- 'privatefetchlaw27.SymbolAffine': WHATEVER THE INPUT: true; the input reads as it did. -/
def symbolAffineSpec : ChangeSpec := { name := "symbolAffine", fn := fun _ => fun
  | [d] => { results := [.lit (.bool true)], args := [d] }
  | _ => none }
def symbolAffineRow : OpenClaim := { program := "ytaljgjnnpallpaagreat", sum := "4eea53d2eb090feab4ea4f6040d20ac107fa19fa209c441880012ef652c43325", func := "privatefetch/privatefetchlaw27.SymbolAffine", spec := "symbolAffine", unfollowed := true, recurses := true, apart := false }
def SymbolAffineSaid : Prop := symbolAffineRow.holds Tryz.pinned (OpenSpec.ofChange symbolAffineSpec)

/-- ITS FALSE NEIGHBOUR: 'it returns false'. Refute it at one input. -/
def symbolAffineWrong : ChangeSpec := { name := "symbolAffine", fn := fun _ => fun
  | [d] => { results := [.lit (.bool false)], args := [d] }
  | _ => none }
def SymbolAffineWrongFalsely : Prop := symbolAffineRow.holds Tryz.pinned (OpenSpec.ofChange symbolAffineWrong)

/-- 'privatefetchlaw27.SymbolSteps': WHATEVER THE INPUT: true; the input reads as it did. -/
def symbolStepsSpec : ChangeSpec := { name := "symbolSteps", fn := fun _ => fun
  | [d1, d2, d3, d4, d5, d6, d7] => { results := [.lit (.bool true)], args := [d1, d2, d3, d4, d5, d6, d7] }
  | _ => none }
def symbolStepsRow : OpenClaim := { program := "ytaljgjnnpallpaagreat", sum := "4eea53d2eb090feab4ea4f6040d20ac107fa19fa209c441880012ef652c43325", func := "privatefetch/privatefetchlaw27.SymbolSteps", spec := "symbolSteps", unfollowed := true, recurses := true, apart := false }
def SymbolStepsSaid : Prop := symbolStepsRow.holds Tryz.pinned (OpenSpec.ofChange symbolStepsSpec)

/-- ITS FALSE NEIGHBOUR: 'it returns false'. Refute it at one input. -/
def symbolStepsWrong : ChangeSpec := { name := "symbolSteps", fn := fun _ => fun
  | [d1, d2, d3, d4, d5, d6, d7] => { results := [.lit (.bool false)], args := [d1, d2, d3, d4, d5, d6, d7] }
  | _ => none }
def SymbolStepsWrongFalsely : Prop := symbolStepsRow.holds Tryz.pinned (OpenSpec.ofChange symbolStepsWrong)

/-- 'privatefetchlaw45.AuditHides': WHATEVER THE INPUT: true; the input reads as it did. -/
def auditHidesSpec : ChangeSpec := { name := "auditHides", fn := fun _ => fun
  | [d] => { results := [.lit (.bool true)], args := [d] }
  | _ => none }
def auditHidesRow : OpenClaim := { program := "ytaljgjnnpallpaagreat", sum := "4eea53d2eb090feab4ea4f6040d20ac107fa19fa209c441880012ef652c43325", func := "privatefetch/privatefetchlaw45.AuditHides", spec := "auditHides", unfollowed := true, recurses := true, apart := false }
def AuditHidesSaid : Prop := auditHidesRow.holds Tryz.pinned (OpenSpec.ofChange auditHidesSpec)

/-- ITS FALSE NEIGHBOUR: 'it returns false'. Refute it at one input. -/
def auditHidesWrong : ChangeSpec := { name := "auditHides", fn := fun _ => fun
  | [d] => { results := [.lit (.bool false)], args := [d] }
  | _ => none }
def AuditHidesWrongFalsely : Prop := auditHidesRow.holds Tryz.pinned (OpenSpec.ofChange auditHidesWrong)

/-- 'privatefetchlaw45.AuditCoalitions': WHATEVER THE INPUT: true; the input reads as it did. -/
def auditCoalitionsSpec : ChangeSpec := { name := "auditCoalitions", fn := fun _ => fun
  | [d] => { results := [.lit (.bool true)], args := [d] }
  | _ => none }
def auditCoalitionsRow : OpenClaim := { program := "ytaljgjnnpallpaagreat", sum := "4eea53d2eb090feab4ea4f6040d20ac107fa19fa209c441880012ef652c43325", func := "privatefetch/privatefetchlaw45.AuditCoalitions", spec := "auditCoalitions", unfollowed := true, recurses := true, apart := false }
def AuditCoalitionsSaid : Prop := auditCoalitionsRow.holds Tryz.pinned (OpenSpec.ofChange auditCoalitionsSpec)

/-- ITS FALSE NEIGHBOUR: 'it returns false'. Refute it at one input. -/
def auditCoalitionsWrong : ChangeSpec := { name := "auditCoalitions", fn := fun _ => fun
  | [d] => { results := [.lit (.bool false)], args := [d] }
  | _ => none }
def AuditCoalitionsWrongFalsely : Prop := auditCoalitionsRow.holds Tryz.pinned (OpenSpec.ofChange auditCoalitionsWrong)

/-- 'privatefetchlaw26.CountShows': WHATEVER THE INPUT: true; the input reads as it did. -/
def countShowsSpec : ChangeSpec := { name := "countShows", fn := fun _ => fun
  | [d] => { results := [.lit (.bool true)], args := [d] }
  | _ => none }
def countShowsRow : OpenClaim := { program := "ytaljgjnnpallpaagreat", sum := "4eea53d2eb090feab4ea4f6040d20ac107fa19fa209c441880012ef652c43325", func := "privatefetch/privatefetchlaw26.CountShows", spec := "countShows", unfollowed := true, recurses := true, apart := false }
def CountShowsSaid : Prop := countShowsRow.holds Tryz.pinned (OpenSpec.ofChange countShowsSpec)

/-- ITS FALSE NEIGHBOUR: 'it returns false'. Refute it at one input. -/
def countShowsWrong : ChangeSpec := { name := "countShows", fn := fun _ => fun
  | [d] => { results := [.lit (.bool false)], args := [d] }
  | _ => none }
def CountShowsWrongFalsely : Prop := countShowsRow.holds Tryz.pinned (OpenSpec.ofChange countShowsWrong)

/-- 'privatefetchlaw26.CountTotals': WHATEVER THE INPUT: true; the input reads as it did. -/
def countTotalsSpec : ChangeSpec := { name := "countTotals", fn := fun _ => fun
  | [d] => { results := [.lit (.bool true)], args := [d] }
  | _ => none }
def countTotalsRow : OpenClaim := { program := "ytaljgjnnpallpaagreat", sum := "4eea53d2eb090feab4ea4f6040d20ac107fa19fa209c441880012ef652c43325", func := "privatefetch/privatefetchlaw26.CountTotals", spec := "countTotals", unfollowed := true, recurses := true, apart := false }
def CountTotalsSaid : Prop := countTotalsRow.holds Tryz.pinned (OpenSpec.ofChange countTotalsSpec)

/-- ITS FALSE NEIGHBOUR: 'it returns false'. Refute it at one input. -/
def countTotalsWrong : ChangeSpec := { name := "countTotals", fn := fun _ => fun
  | [d] => { results := [.lit (.bool false)], args := [d] }
  | _ => none }
def CountTotalsWrongFalsely : Prop := countTotalsRow.holds Tryz.pinned (OpenSpec.ofChange countTotalsWrong)

/-- 'privatefetchlaw26.CountProducts': WHATEVER THE INPUT: true; the input reads as it did. -/
def countProductsSpec : ChangeSpec := { name := "countProducts", fn := fun _ => fun
  | [d] => { results := [.lit (.bool true)], args := [d] }
  | _ => none }
def countProductsRow : OpenClaim := { program := "ytaljgjnnpallpaagreat", sum := "4eea53d2eb090feab4ea4f6040d20ac107fa19fa209c441880012ef652c43325", func := "privatefetch/privatefetchlaw26.CountProducts", spec := "countProducts", unfollowed := true, recurses := true, apart := false }
def CountProductsSaid : Prop := countProductsRow.holds Tryz.pinned (OpenSpec.ofChange countProductsSpec)

/-- ITS FALSE NEIGHBOUR: 'it returns false'. Refute it at one input. -/
def countProductsWrong : ChangeSpec := { name := "countProducts", fn := fun _ => fun
  | [d] => { results := [.lit (.bool false)], args := [d] }
  | _ => none }
def CountProductsWrongFalsely : Prop := countProductsRow.holds Tryz.pinned (OpenSpec.ofChange countProductsWrong)

/-- 'privatefetchlaw26.CountPrivate': WHATEVER THE INPUT: true; the input reads as it did. -/
def countPrivateSpec : ChangeSpec := { name := "countPrivate", fn := fun _ => fun
  | [d] => { results := [.lit (.bool true)], args := [d] }
  | _ => none }
def countPrivateRow : OpenClaim := { program := "ytaljgjnnpallpaagreat", sum := "4eea53d2eb090feab4ea4f6040d20ac107fa19fa209c441880012ef652c43325", func := "privatefetch/privatefetchlaw26.CountPrivate", spec := "countPrivate", unfollowed := true, recurses := true, apart := false }
def CountPrivateSaid : Prop := countPrivateRow.holds Tryz.pinned (OpenSpec.ofChange countPrivateSpec)

/-- ITS FALSE NEIGHBOUR: 'it returns false'. Refute it at one input. -/
def countPrivateWrong : ChangeSpec := { name := "countPrivate", fn := fun _ => fun
  | [d] => { results := [.lit (.bool false)], args := [d] }
  | _ => none }
def CountPrivateWrongFalsely : Prop := countPrivateRow.holds Tryz.pinned (OpenSpec.ofChange countPrivateWrong)

/-- 'privatefetchlaw26.CountSteps': WHATEVER THE INPUT: true; the input reads as it did. -/
def countStepsSpec : ChangeSpec := { name := "countSteps", fn := fun _ => fun
  | [d1, d2, d3, d4, d5, d6] => { results := [.lit (.bool true)], args := [d1, d2, d3, d4, d5, d6] }
  | _ => none }
def countStepsRow : OpenClaim := { program := "ytaljgjnnpallpaagreat", sum := "4eea53d2eb090feab4ea4f6040d20ac107fa19fa209c441880012ef652c43325", func := "privatefetch/privatefetchlaw26.CountSteps", spec := "countSteps", unfollowed := true, recurses := true, apart := false }
def CountStepsSaid : Prop := countStepsRow.holds Tryz.pinned (OpenSpec.ofChange countStepsSpec)

/-- ITS FALSE NEIGHBOUR: 'it returns false'. Refute it at one input. -/
def countStepsWrong : ChangeSpec := { name := "countSteps", fn := fun _ => fun
  | [d1, d2, d3, d4, d5, d6] => { results := [.lit (.bool false)], args := [d1, d2, d3, d4, d5, d6] }
  | _ => none }
def CountStepsWrongFalsely : Prop := countStepsRow.holds Tryz.pinned (OpenSpec.ofChange countStepsWrong)

/- THE SECOND FORM. 'bulk': how many values and letters a reading holds, each counted each time it is reached (what is shared counts as often as it is met; a slice's spare places count too). A statement '..UptoSaid' is the law's where the arguments, and the package variables that the reading takes, are together of bulk at most 1048576: NARROWER than '..Said'. Prove '..Said' where nothing that the law and all that it calls make is longer than what came in: it says more and counts as full. Else prove '..UptoSaid'. A law counts once. -/
mutual
def uptoBulk {H : Type} : DataW H → Nat
  | .lit (.string bytes) => bytes.length + 1
  | .lit _ => 1
  | .nil => 1
  | .ptr d => uptoBulk d + 1
  | .slice elems spare => uptoBulkAll elems + uptoBulkAll spare + 1
  | .agg parts => uptoBulkAll parts + 1
  | .iface _ d => uptoBulk d + 1
  | .map entries => uptoBulkEntries entries + 1
  | .held _ => 1
def uptoBulkAll {H : Type} : List (DataW H) → Nat
  | [] => 0
  | d :: r => uptoBulk d + uptoBulkAll r
def uptoBulkEntries {H : Type} : List (Lit × DataW H) → Nat
  | [] => 0
  | x :: r => uptoBulkEntry x + uptoBulkEntries r
def uptoBulkEntry {H : Type} : Lit × DataW H → Nat
  | (.string bytes, d) => bytes.length + uptoBulk d + 1
  | (_, d) => uptoBulk d + 1
 end
def uptoSmall : (H : Type) → List (DataW H) → Bool := fun _ ds => decide (uptoBulkAll ds ≤ 1048576)
def OpenSpec.upto (s : _root_.Go.ChangeSpec) : _root_.Go.OpenSpec := { _root_.Go.OpenSpec.ofChange s with cond := some uptoSmall }

/-- 'privatefetchlaw27.SymbolValues', WHERE WHAT IT READS IS OF BULK AT MOST 1048576: true; the input reads as it did. -/
def symbolValuesUptoRow : OpenClaim := { program := "ytaljgjnnpallpaagreat", sum := "4eea53d2eb090feab4ea4f6040d20ac107fa19fa209c441880012ef652c43325", func := "privatefetch/privatefetchlaw27.SymbolValues", spec := "symbolValues", unfollowed := true, recurses := true, apart := false, narrowed := true }
def SymbolValuesUptoSaid : Prop := symbolValuesUptoRow.holds Tryz.pinned (OpenSpec.upto symbolValuesSpec)

/-- 'privatefetchlaw27.SymbolAffine', WHERE WHAT IT READS IS OF BULK AT MOST 1048576: true; the input reads as it did. -/
def symbolAffineUptoRow : OpenClaim := { program := "ytaljgjnnpallpaagreat", sum := "4eea53d2eb090feab4ea4f6040d20ac107fa19fa209c441880012ef652c43325", func := "privatefetch/privatefetchlaw27.SymbolAffine", spec := "symbolAffine", unfollowed := true, recurses := true, apart := false, narrowed := true }
def SymbolAffineUptoSaid : Prop := symbolAffineUptoRow.holds Tryz.pinned (OpenSpec.upto symbolAffineSpec)

/-- 'privatefetchlaw27.SymbolSteps', WHERE WHAT IT READS IS OF BULK AT MOST 1048576: true; the input reads as it did. -/
def symbolStepsUptoRow : OpenClaim := { program := "ytaljgjnnpallpaagreat", sum := "4eea53d2eb090feab4ea4f6040d20ac107fa19fa209c441880012ef652c43325", func := "privatefetch/privatefetchlaw27.SymbolSteps", spec := "symbolSteps", unfollowed := true, recurses := true, apart := false, narrowed := true }
def SymbolStepsUptoSaid : Prop := symbolStepsUptoRow.holds Tryz.pinned (OpenSpec.upto symbolStepsSpec)

/-- 'privatefetchlaw45.AuditHides', WHERE WHAT IT READS IS OF BULK AT MOST 1048576: true; the input reads as it did. -/
def auditHidesUptoRow : OpenClaim := { program := "ytaljgjnnpallpaagreat", sum := "4eea53d2eb090feab4ea4f6040d20ac107fa19fa209c441880012ef652c43325", func := "privatefetch/privatefetchlaw45.AuditHides", spec := "auditHides", unfollowed := true, recurses := true, apart := false, narrowed := true }
def AuditHidesUptoSaid : Prop := auditHidesUptoRow.holds Tryz.pinned (OpenSpec.upto auditHidesSpec)

/-- 'privatefetchlaw45.AuditCoalitions', WHERE WHAT IT READS IS OF BULK AT MOST 1048576: true; the input reads as it did. -/
def auditCoalitionsUptoRow : OpenClaim := { program := "ytaljgjnnpallpaagreat", sum := "4eea53d2eb090feab4ea4f6040d20ac107fa19fa209c441880012ef652c43325", func := "privatefetch/privatefetchlaw45.AuditCoalitions", spec := "auditCoalitions", unfollowed := true, recurses := true, apart := false, narrowed := true }
def AuditCoalitionsUptoSaid : Prop := auditCoalitionsUptoRow.holds Tryz.pinned (OpenSpec.upto auditCoalitionsSpec)

/-- 'privatefetchlaw26.CountShows', WHERE WHAT IT READS IS OF BULK AT MOST 1048576: true; the input reads as it did. -/
def countShowsUptoRow : OpenClaim := { program := "ytaljgjnnpallpaagreat", sum := "4eea53d2eb090feab4ea4f6040d20ac107fa19fa209c441880012ef652c43325", func := "privatefetch/privatefetchlaw26.CountShows", spec := "countShows", unfollowed := true, recurses := true, apart := false, narrowed := true }
def CountShowsUptoSaid : Prop := countShowsUptoRow.holds Tryz.pinned (OpenSpec.upto countShowsSpec)

/-- 'privatefetchlaw26.CountTotals', WHERE WHAT IT READS IS OF BULK AT MOST 1048576: true; the input reads as it did. -/
def countTotalsUptoRow : OpenClaim := { program := "ytaljgjnnpallpaagreat", sum := "4eea53d2eb090feab4ea4f6040d20ac107fa19fa209c441880012ef652c43325", func := "privatefetch/privatefetchlaw26.CountTotals", spec := "countTotals", unfollowed := true, recurses := true, apart := false, narrowed := true }
def CountTotalsUptoSaid : Prop := countTotalsUptoRow.holds Tryz.pinned (OpenSpec.upto countTotalsSpec)

/-- 'privatefetchlaw26.CountProducts', WHERE WHAT IT READS IS OF BULK AT MOST 1048576: true; the input reads as it did. -/
def countProductsUptoRow : OpenClaim := { program := "ytaljgjnnpallpaagreat", sum := "4eea53d2eb090feab4ea4f6040d20ac107fa19fa209c441880012ef652c43325", func := "privatefetch/privatefetchlaw26.CountProducts", spec := "countProducts", unfollowed := true, recurses := true, apart := false, narrowed := true }
def CountProductsUptoSaid : Prop := countProductsUptoRow.holds Tryz.pinned (OpenSpec.upto countProductsSpec)

/-- 'privatefetchlaw26.CountPrivate', WHERE WHAT IT READS IS OF BULK AT MOST 1048576: true; the input reads as it did. -/
def countPrivateUptoRow : OpenClaim := { program := "ytaljgjnnpallpaagreat", sum := "4eea53d2eb090feab4ea4f6040d20ac107fa19fa209c441880012ef652c43325", func := "privatefetch/privatefetchlaw26.CountPrivate", spec := "countPrivate", unfollowed := true, recurses := true, apart := false, narrowed := true }
def CountPrivateUptoSaid : Prop := countPrivateUptoRow.holds Tryz.pinned (OpenSpec.upto countPrivateSpec)

/-- 'privatefetchlaw26.CountSteps', WHERE WHAT IT READS IS OF BULK AT MOST 1048576: true; the input reads as it did. -/
def countStepsUptoRow : OpenClaim := { program := "ytaljgjnnpallpaagreat", sum := "4eea53d2eb090feab4ea4f6040d20ac107fa19fa209c441880012ef652c43325", func := "privatefetch/privatefetchlaw26.CountSteps", spec := "countSteps", unfollowed := true, recurses := true, apart := false, narrowed := true }
def CountStepsUptoSaid : Prop := countStepsUptoRow.holds Tryz.pinned (OpenSpec.upto countStepsSpec)

end Rows
end Go.Proofs.YtaljgjnnpallpaaGreat

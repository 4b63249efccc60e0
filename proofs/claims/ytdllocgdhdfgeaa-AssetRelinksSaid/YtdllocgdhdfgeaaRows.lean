/-
  No cell of these rows narrows 'for every input' (looked for: loops, veiled, ifaces, maps, wideKeys, modest, calm, conditions, laid).
  DERIVED. THE GIVEN ROWS OF THIS SEAT. 5 by the template 'for every input the law returns true; each argument reads behind the call as it read before'; 0 by the template 'total and deterministic' (their statements: YtdllocgdhdfgeaaTotals.lean).
  GIVEN WITH THE SEED: the statements are not yours to turn. If you find one false, say at which input.
  Laid BY PROGRAM, IN A SANDBOX (cutbox-rows.mjs): the forced cells as the released guide's own fill.sh prints them over the translation 73c51cd4291d0e77… (all of the seat's roots in one cut). By AI agents, Wed Nov 11 2026. No macro, syntax, notation, axiom, sorry.
-/
import Derived.Test.YtdllocgdhdfgeaaChecked
import GoSem.Claim
import GoSem.ClaimJoined
import GoSem.ClaimMapViews
import Derived.JoinedTies
import Derived.KernelRfl
namespace Go.Proofs.Ytdllocgdhdfgeaa
/- THE CELL 'sum', in the pinned program and in every row, IS THE sha256 OF THE DUMP (.gsa) THAT YtdllocgdhdfgeaaProg.lean LOADS. Nothing in Lean hashes anything: it is a label: what it is worth is what the hold of that sum in a sandbox is worth. -/
noncomputable def Try.pinned : Pinned := { name := "ytdllocgdhdfgeaa", sum := "73c51cd4291d0e777b843a23a67c91ede6fff904ae67235af1f76f0dfeef9b27", checked := Try.checked }
namespace Rows
def none {H : Type} : Left H := { results := [], args := [] }

/-- 'mastlaw2.AssetShrinks': WHATEVER THE INPUT: true; the input reads as it did. -/
def assetShrinksSpec : ChangeSpec := { name := "assetShrinks", fn := fun _ => fun
  | [d1, d2] => { results := [.lit (.bool true)], args := [d1, d2] }
  | _ => none }
def assetShrinksRow : OpenClaim := { program := "ytdllocgdhdfgeaa", sum := "73c51cd4291d0e777b843a23a67c91ede6fff904ae67235af1f76f0dfeef9b27", func := "masthead/mastlaw2.AssetShrinks", spec := "assetShrinks", inPlace := ["internal/abi.NoEscape", "internal/bytealg.IndexByteString", "internal/bytealg.IndexString"], unfollowed := true, recurses := true, named := ["internal/bytealg.MaxLen"], plainKeys := false, apart := false }
def AssetShrinksSaid : Prop := assetShrinksRow.holds Try.pinned (OpenSpec.ofChange assetShrinksSpec)

/-- ITS FALSE NEIGHBOUR: 'it returns false'. Refute it at one input. -/
def assetShrinksWrong : ChangeSpec := { name := "assetShrinks", fn := fun _ => fun
  | [d1, d2] => { results := [.lit (.bool false)], args := [d1, d2] }
  | _ => none }
def AssetShrinksWrongFalsely : Prop := assetShrinksRow.holds Try.pinned (OpenSpec.ofChange assetShrinksWrong)

/-- 'mastlaw2.AssetTokens': WHATEVER THE INPUT: true; the input reads as it did. -/
def assetTokensSpec : ChangeSpec := { name := "assetTokens", fn := fun _ => fun
  | [d1, d2] => { results := [.lit (.bool true)], args := [d1, d2] }
  | _ => none }
def assetTokensRow : OpenClaim := { program := "ytdllocgdhdfgeaa", sum := "73c51cd4291d0e777b843a23a67c91ede6fff904ae67235af1f76f0dfeef9b27", func := "masthead/mastlaw2.AssetTokens", spec := "assetTokens", inPlace := ["internal/bytealg.IndexByteString", "internal/bytealg.IndexString"], unfollowed := true, recurses := true, named := ["internal/bytealg.MaxLen"], plainKeys := false, apart := false }
def AssetTokensSaid : Prop := assetTokensRow.holds Try.pinned (OpenSpec.ofChange assetTokensSpec)

/-- ITS FALSE NEIGHBOUR: 'it returns false'. Refute it at one input. -/
def assetTokensWrong : ChangeSpec := { name := "assetTokens", fn := fun _ => fun
  | [d1, d2] => { results := [.lit (.bool false)], args := [d1, d2] }
  | _ => none }
def AssetTokensWrongFalsely : Prop := assetTokensRow.holds Try.pinned (OpenSpec.ofChange assetTokensWrong)

/-- 'mastlaw2.AssetLinks': WHATEVER THE INPUT: true; the input reads as it did. -/
def assetLinksSpec : ChangeSpec := { name := "assetLinks", fn := fun _ => fun
  | [d] => { results := [.lit (.bool true)], args := [d] }
  | _ => none }
def assetLinksRow : OpenClaim := { program := "ytdllocgdhdfgeaa", sum := "73c51cd4291d0e777b843a23a67c91ede6fff904ae67235af1f76f0dfeef9b27", func := "masthead/mastlaw2.AssetLinks", spec := "assetLinks", inPlace := ["internal/bytealg.IndexByteString", "internal/bytealg.IndexString"], unfollowed := true, recurses := true, named := ["internal/bytealg.MaxLen"], plainKeys := false, apart := false }
def AssetLinksSaid : Prop := assetLinksRow.holds Try.pinned (OpenSpec.ofChange assetLinksSpec)

/-- ITS FALSE NEIGHBOUR: 'it returns false'. Refute it at one input. -/
def assetLinksWrong : ChangeSpec := { name := "assetLinks", fn := fun _ => fun
  | [d] => { results := [.lit (.bool false)], args := [d] }
  | _ => none }
def AssetLinksWrongFalsely : Prop := assetLinksRow.holds Try.pinned (OpenSpec.ofChange assetLinksWrong)

/-- 'mastlaw2.AssetMinifies': WHATEVER THE INPUT: true; the input reads as it did. -/
def assetMinifiesSpec : ChangeSpec := { name := "assetMinifies", fn := fun _ => fun
  | [d1, d2] => { results := [.lit (.bool true)], args := [d1, d2] }
  | _ => none }
def assetMinifiesRow : OpenClaim := { program := "ytdllocgdhdfgeaa", sum := "73c51cd4291d0e777b843a23a67c91ede6fff904ae67235af1f76f0dfeef9b27", func := "masthead/mastlaw2.AssetMinifies", spec := "assetMinifies", inPlace := ["internal/bytealg.IndexByteString", "internal/bytealg.IndexString", "internal/abi.NoEscape"], unfollowed := true, recurses := true, named := ["internal/bytealg.MaxLen"], plainKeys := false, apart := false }
def AssetMinifiesSaid : Prop := assetMinifiesRow.holds Try.pinned (OpenSpec.ofChange assetMinifiesSpec)

/-- ITS FALSE NEIGHBOUR: 'it returns false'. Refute it at one input. -/
def assetMinifiesWrong : ChangeSpec := { name := "assetMinifies", fn := fun _ => fun
  | [d1, d2] => { results := [.lit (.bool false)], args := [d1, d2] }
  | _ => none }
def AssetMinifiesWrongFalsely : Prop := assetMinifiesRow.holds Try.pinned (OpenSpec.ofChange assetMinifiesWrong)

/-- 'mastlaw2.AssetRelinks': WHATEVER THE INPUT: true; the input reads as it did. -/
def assetRelinksSpec : ChangeSpec := { name := "assetRelinks", fn := fun _ => fun
  | [d1, d2] => { results := [.lit (.bool true)], args := [d1, d2] }
  | _ => none }
def assetRelinksRow : OpenClaim := { program := "ytdllocgdhdfgeaa", sum := "73c51cd4291d0e777b843a23a67c91ede6fff904ae67235af1f76f0dfeef9b27", func := "masthead/mastlaw2.AssetRelinks", spec := "assetRelinks", inPlace := ["internal/bytealg.IndexByteString", "internal/bytealg.IndexString", "internal/abi.NoEscape"], unfollowed := true, recurses := true, named := ["internal/bytealg.MaxLen"], plainKeys := false, apart := false }
def AssetRelinksSaid : Prop := assetRelinksRow.holds Try.pinned (OpenSpec.ofChange assetRelinksSpec)

/-- ITS FALSE NEIGHBOUR: 'it returns false'. Refute it at one input. -/
def assetRelinksWrong : ChangeSpec := { name := "assetRelinks", fn := fun _ => fun
  | [d1, d2] => { results := [.lit (.bool false)], args := [d1, d2] }
  | _ => none }
def AssetRelinksWrongFalsely : Prop := assetRelinksRow.holds Try.pinned (OpenSpec.ofChange assetRelinksWrong)

/- THE SECOND FORM. 'bulk': how many values and letters a reading holds, each counted each time it is reached (what is shared counts as often as it is met; a slice's spare places count too). A statement '..UptoSaid' is the law's where the arguments, and the package variables that the reading takes, are together of bulk at most 1048576: NARROWER than '..Said'. Prove '..Said' where nothing that the law and all that it calls make is longer than what came in: it says more and counts as full. Else prove '..UptoSaid'. A law counts once. -/
mutual
def uptoBulk {H : Type} : DataW H → Nat
  | .lit (.string bytes) => bytes.length + 1
  | .lit _ => 1
  | .nil => 1
  | .ptr d => uptoBulk d + 1
  | .slice elems spare => uptoBulkAll elems + uptoBulkAll spare + 1
  | .agg parts => uptoBulkAll parts + 1
  | .iface _ d => uptoBulk d + 1
  | .map entries => uptoBulkEntries entries + 1
  | .held _ => 1
def uptoBulkAll {H : Type} : List (DataW H) → Nat
  | [] => 0
  | d :: r => uptoBulk d + uptoBulkAll r
def uptoBulkEntries {H : Type} : List (Lit × DataW H) → Nat
  | [] => 0
  | x :: r => uptoBulkEntry x + uptoBulkEntries r
def uptoBulkEntry {H : Type} : Lit × DataW H → Nat
  | (.string bytes, d) => bytes.length + uptoBulk d + 1
  | (_, d) => uptoBulk d + 1
 end
def uptoSmall : (H : Type) → List (DataW H) → Bool := fun _ ds => decide (uptoBulkAll ds ≤ 1048576)
def OpenSpec.upto (s : _root_.Go.ChangeSpec) : _root_.Go.OpenSpec := { _root_.Go.OpenSpec.ofChange s with cond := some uptoSmall }

/-- 'mastlaw2.AssetShrinks', WHERE WHAT IT READS IS OF BULK AT MOST 1048576: true; the input reads as it did. -/
def assetShrinksUptoRow : OpenClaim := { program := "ytdllocgdhdfgeaa", sum := "73c51cd4291d0e777b843a23a67c91ede6fff904ae67235af1f76f0dfeef9b27", func := "masthead/mastlaw2.AssetShrinks", spec := "assetShrinks", inPlace := ["internal/abi.NoEscape", "internal/bytealg.IndexByteString", "internal/bytealg.IndexString"], unfollowed := true, recurses := true, named := ["internal/bytealg.MaxLen"], plainKeys := false, apart := false, narrowed := true }
def AssetShrinksUptoSaid : Prop := assetShrinksUptoRow.holds Try.pinned (OpenSpec.upto assetShrinksSpec)

/-- 'mastlaw2.AssetTokens', WHERE WHAT IT READS IS OF BULK AT MOST 1048576: true; the input reads as it did. -/
def assetTokensUptoRow : OpenClaim := { program := "ytdllocgdhdfgeaa", sum := "73c51cd4291d0e777b843a23a67c91ede6fff904ae67235af1f76f0dfeef9b27", func := "masthead/mastlaw2.AssetTokens", spec := "assetTokens", inPlace := ["internal/bytealg.IndexByteString", "internal/bytealg.IndexString"], unfollowed := true, recurses := true, named := ["internal/bytealg.MaxLen"], plainKeys := false, apart := false, narrowed := true }
def AssetTokensUptoSaid : Prop := assetTokensUptoRow.holds Try.pinned (OpenSpec.upto assetTokensSpec)

/-- 'mastlaw2.AssetLinks', WHERE WHAT IT READS IS OF BULK AT MOST 1048576: true; the input reads as it did. -/
def assetLinksUptoRow : OpenClaim := { program := "ytdllocgdhdfgeaa", sum := "73c51cd4291d0e777b843a23a67c91ede6fff904ae67235af1f76f0dfeef9b27", func := "masthead/mastlaw2.AssetLinks", spec := "assetLinks", inPlace := ["internal/bytealg.IndexByteString", "internal/bytealg.IndexString"], unfollowed := true, recurses := true, named := ["internal/bytealg.MaxLen"], plainKeys := false, apart := false, narrowed := true }
def AssetLinksUptoSaid : Prop := assetLinksUptoRow.holds Try.pinned (OpenSpec.upto assetLinksSpec)

/-- 'mastlaw2.AssetMinifies', WHERE WHAT IT READS IS OF BULK AT MOST 1048576: true; the input reads as it did. -/
def assetMinifiesUptoRow : OpenClaim := { program := "ytdllocgdhdfgeaa", sum := "73c51cd4291d0e777b843a23a67c91ede6fff904ae67235af1f76f0dfeef9b27", func := "masthead/mastlaw2.AssetMinifies", spec := "assetMinifies", inPlace := ["internal/bytealg.IndexByteString", "internal/bytealg.IndexString", "internal/abi.NoEscape"], unfollowed := true, recurses := true, named := ["internal/bytealg.MaxLen"], plainKeys := false, apart := false, narrowed := true }
def AssetMinifiesUptoSaid : Prop := assetMinifiesUptoRow.holds Try.pinned (OpenSpec.upto assetMinifiesSpec)

/-- 'mastlaw2.AssetRelinks', WHERE WHAT IT READS IS OF BULK AT MOST 1048576: true; the input reads as it did. -/
def assetRelinksUptoRow : OpenClaim := { program := "ytdllocgdhdfgeaa", sum := "73c51cd4291d0e777b843a23a67c91ede6fff904ae67235af1f76f0dfeef9b27", func := "masthead/mastlaw2.AssetRelinks", spec := "assetRelinks", inPlace := ["internal/bytealg.IndexByteString", "internal/bytealg.IndexString", "internal/abi.NoEscape"], unfollowed := true, recurses := true, named := ["internal/bytealg.MaxLen"], plainKeys := false, apart := false, narrowed := true }
def AssetRelinksUptoSaid : Prop := assetRelinksUptoRow.holds Try.pinned (OpenSpec.upto assetRelinksSpec)

end Rows
end Go.Proofs.Ytdllocgdhdfgeaa

/-
  No cell of these rows narrows 'for every input' (looked for: loops, veiled, ifaces, maps, wideKeys, modest, calm, conditions, laid).
  DERIVED. THE GIVEN ROWS OF THIS SEAT. 7 by the template 'for every input the law returns true; each argument reads behind the call as it read before'; 0 by the template 'total and deterministic' (their statements: YtkloijkfaooodaaTotals.lean).
  GIVEN WITH THE SEED: the statements are not yours to turn. If you find one false, say at which input.
  Laid BY PROGRAM, IN A SANDBOX (cutbox-rows.mjs): the forced cells as the released guide's own fill.sh prints them over the translation 0a05ec12f11b1dba… (all of the seat's roots in one cut). By AI agents, Wed Nov 11 2026. No macro, syntax, notation, axiom, sorry.
-/
import Derived.Test.YtkloijkfaooodaaChecked
import GoSem.Claim
import GoSem.ClaimJoined
import GoSem.ClaimMapViews
import Derived.JoinedTies
import Derived.KernelRfl
namespace Go.Proofs.Ytkloijkfaooodaa
/- THE CELL 'sum', in the pinned program and in every row, IS THE sha256 OF THE DUMP (.gsa) THAT YtkloijkfaooodaaProg.lean LOADS. Nothing in Lean hashes anything: it is a label: what it is worth is what the hold of that sum in a sandbox is worth. -/
noncomputable def Try.pinned : Pinned := { name := "ytkloijkfaooodaa", sum := "0a05ec12f11b1dba083fee29bb740a6ee84fea052016c80b2a68c7d88c6cfc2c", checked := Try.checked }
namespace Rows
def none {H : Type} : Left H := { results := [], args := [] }

/-- 'chattellaw12.BitempApart': WHATEVER THE INPUT: true; the input reads as it did. -/
def bitempApartSpec : ChangeSpec := { name := "bitempApart", fn := fun _ => fun
  | [d1, d2] => { results := [.lit (.bool true)], args := [d1, d2] }
  | _ => none }
def bitempApartRow : OpenClaim := { program := "ytkloijkfaooodaa", sum := "0a05ec12f11b1dba083fee29bb740a6ee84fea052016c80b2a68c7d88c6cfc2c", func := "chattel/chattellaw12.BitempApart", spec := "bitempApart", unfollowed := true, recurses := true, plainKeys := false, apart := false }
def BitempApartSaid : Prop := bitempApartRow.holds Try.pinned (OpenSpec.ofChange bitempApartSpec)

/-- ITS FALSE NEIGHBOUR: 'it returns false'. Refute it at one input. -/
def bitempApartWrong : ChangeSpec := { name := "bitempApart", fn := fun _ => fun
  | [d1, d2] => { results := [.lit (.bool false)], args := [d1, d2] }
  | _ => none }
def BitempApartWrongFalsely : Prop := bitempApartRow.holds Try.pinned (OpenSpec.ofChange bitempApartWrong)

/-- 'chattellaw12.BitempPlays': WHATEVER THE INPUT: true; the input reads as it did. -/
def bitempPlaysSpec : ChangeSpec := { name := "bitempPlays", fn := fun _ => fun
  | [d] => { results := [.lit (.bool true)], args := [d] }
  | _ => none }
def bitempPlaysRow : OpenClaim := { program := "ytkloijkfaooodaa", sum := "0a05ec12f11b1dba083fee29bb740a6ee84fea052016c80b2a68c7d88c6cfc2c", func := "chattel/chattellaw12.BitempPlays", spec := "bitempPlays", unfollowed := true, recurses := true, plainKeys := false, apart := false }
def BitempPlaysSaid : Prop := bitempPlaysRow.holds Try.pinned (OpenSpec.ofChange bitempPlaysSpec)

/-- ITS FALSE NEIGHBOUR: 'it returns false'. Refute it at one input. -/
def bitempPlaysWrong : ChangeSpec := { name := "bitempPlays", fn := fun _ => fun
  | [d] => { results := [.lit (.bool false)], args := [d] }
  | _ => none }
def BitempPlaysWrongFalsely : Prop := bitempPlaysRow.holds Try.pinned (OpenSpec.ofChange bitempPlaysWrong)

/-- 'chattellaw12.BitempDecodes': WHATEVER THE INPUT: true; the input reads as it did. -/
def bitempDecodesSpec : ChangeSpec := { name := "bitempDecodes", fn := fun _ => fun
  | [d] => { results := [.lit (.bool true)], args := [d] }
  | _ => none }
def bitempDecodesRow : OpenClaim := { program := "ytkloijkfaooodaa", sum := "0a05ec12f11b1dba083fee29bb740a6ee84fea052016c80b2a68c7d88c6cfc2c", func := "chattel/chattellaw12.BitempDecodes", spec := "bitempDecodes", unfollowed := true, recurses := true, plainKeys := false, apart := false }
def BitempDecodesSaid : Prop := bitempDecodesRow.holds Try.pinned (OpenSpec.ofChange bitempDecodesSpec)

/-- ITS FALSE NEIGHBOUR: 'it returns false'. Refute it at one input. -/
def bitempDecodesWrong : ChangeSpec := { name := "bitempDecodes", fn := fun _ => fun
  | [d] => { results := [.lit (.bool false)], args := [d] }
  | _ => none }
def BitempDecodesWrongFalsely : Prop := bitempDecodesRow.holds Try.pinned (OpenSpec.ofChange bitempDecodesWrong)

/-- 'chattellaw12.BitempCodes': WHATEVER THE INPUT: true; the input reads as it did. -/
def bitempCodesSpec : ChangeSpec := { name := "bitempCodes", fn := fun _ => fun
  | [d1, d2] => { results := [.lit (.bool true)], args := [d1, d2] }
  | _ => none }
def bitempCodesRow : OpenClaim := { program := "ytkloijkfaooodaa", sum := "0a05ec12f11b1dba083fee29bb740a6ee84fea052016c80b2a68c7d88c6cfc2c", func := "chattel/chattellaw12.BitempCodes", spec := "bitempCodes", unfollowed := true, recurses := true, plainKeys := false, apart := false }
def BitempCodesSaid : Prop := bitempCodesRow.holds Try.pinned (OpenSpec.ofChange bitempCodesSpec)

/-- ITS FALSE NEIGHBOUR: 'it returns false'. Refute it at one input. -/
def bitempCodesWrong : ChangeSpec := { name := "bitempCodes", fn := fun _ => fun
  | [d1, d2] => { results := [.lit (.bool false)], args := [d1, d2] }
  | _ => none }
def BitempCodesWrongFalsely : Prop := bitempCodesRow.holds Try.pinned (OpenSpec.ofChange bitempCodesWrong)

/-- 'chattellaw12.BitempLooks': WHATEVER THE INPUT: true; the input reads as it did. -/
def bitempLooksSpec : ChangeSpec := { name := "bitempLooks", fn := fun _ => fun
  | [d1, d2, d3] => { results := [.lit (.bool true)], args := [d1, d2, d3] }
  | _ => none }
def bitempLooksRow : OpenClaim := { program := "ytkloijkfaooodaa", sum := "0a05ec12f11b1dba083fee29bb740a6ee84fea052016c80b2a68c7d88c6cfc2c", func := "chattel/chattellaw12.BitempLooks", spec := "bitempLooks", unfollowed := true, recurses := true, plainKeys := false, apart := false }
def BitempLooksSaid : Prop := bitempLooksRow.holds Try.pinned (OpenSpec.ofChange bitempLooksSpec)

/-- ITS FALSE NEIGHBOUR: 'it returns false'. Refute it at one input. -/
def bitempLooksWrong : ChangeSpec := { name := "bitempLooks", fn := fun _ => fun
  | [d1, d2, d3] => { results := [.lit (.bool false)], args := [d1, d2, d3] }
  | _ => none }
def BitempLooksWrongFalsely : Prop := bitempLooksRow.holds Try.pinned (OpenSpec.ofChange bitempLooksWrong)

/-- 'chattellaw12.BitempKnows': WHATEVER THE INPUT: true; the input reads as it did. -/
def bitempKnowsSpec : ChangeSpec := { name := "bitempKnows", fn := fun _ => fun
  | [d1, d2, d3] => { results := [.lit (.bool true)], args := [d1, d2, d3] }
  | _ => none }
def bitempKnowsRow : OpenClaim := { program := "ytkloijkfaooodaa", sum := "0a05ec12f11b1dba083fee29bb740a6ee84fea052016c80b2a68c7d88c6cfc2c", func := "chattel/chattellaw12.BitempKnows", spec := "bitempKnows", unfollowed := true, recurses := true, plainKeys := false, apart := false }
def BitempKnowsSaid : Prop := bitempKnowsRow.holds Try.pinned (OpenSpec.ofChange bitempKnowsSpec)

/-- ITS FALSE NEIGHBOUR: 'it returns false'. Refute it at one input. -/
def bitempKnowsWrong : ChangeSpec := { name := "bitempKnows", fn := fun _ => fun
  | [d1, d2, d3] => { results := [.lit (.bool false)], args := [d1, d2, d3] }
  | _ => none }
def BitempKnowsWrongFalsely : Prop := bitempKnowsRow.holds Try.pinned (OpenSpec.ofChange bitempKnowsWrong)

/-- 'chattellaw12.BitempNil': WHATEVER THE INPUT: true; the input reads as it did. -/
def bitempNilSpec : ChangeSpec := { name := "bitempNil", fn := fun _ => fun
  | [d1, d2] => { results := [.lit (.bool true)], args := [d1, d2] }
  | _ => none }
def bitempNilRow : OpenClaim := { program := "ytkloijkfaooodaa", sum := "0a05ec12f11b1dba083fee29bb740a6ee84fea052016c80b2a68c7d88c6cfc2c", func := "chattel/chattellaw12.BitempNil", spec := "bitempNil", inPlace := ["maps.clone"], unfollowed := true, recurses := true, plainKeys := false, apart := false }
def BitempNilSaid : Prop := bitempNilRow.holds Try.pinned (OpenSpec.ofChange bitempNilSpec)

/-- ITS FALSE NEIGHBOUR: 'it returns false'. Refute it at one input. -/
def bitempNilWrong : ChangeSpec := { name := "bitempNil", fn := fun _ => fun
  | [d1, d2] => { results := [.lit (.bool false)], args := [d1, d2] }
  | _ => none }
def BitempNilWrongFalsely : Prop := bitempNilRow.holds Try.pinned (OpenSpec.ofChange bitempNilWrong)

/- THE SECOND FORM. 'bulk': how many values and letters a reading holds, each counted each time it is reached (what is shared counts as often as it is met; a slice's spare places count too). A statement '..UptoSaid' is the law's where the arguments, and the package variables that the reading takes, are together of bulk at most 1048576: NARROWER than '..Said'. Prove '..Said' where nothing that the law and all that it calls make is longer than what came in: it says more and counts as full. Else prove '..UptoSaid'. A law counts once. -/
mutual
def uptoBulk {H : Type} : DataW H → Nat
  | .lit (.string bytes) => bytes.length + 1
  | .lit _ => 1
  | .nil => 1
  | .ptr d => uptoBulk d + 1
  | .slice elems spare => uptoBulkAll elems + uptoBulkAll spare + 1
  | .agg parts => uptoBulkAll parts + 1
  | .iface _ d => uptoBulk d + 1
  | .map entries => uptoBulkEntries entries + 1
  | .held _ => 1
def uptoBulkAll {H : Type} : List (DataW H) → Nat
  | [] => 0
  | d :: r => uptoBulk d + uptoBulkAll r
def uptoBulkEntries {H : Type} : List (Lit × DataW H) → Nat
  | [] => 0
  | x :: r => uptoBulkEntry x + uptoBulkEntries r
def uptoBulkEntry {H : Type} : Lit × DataW H → Nat
  | (.string bytes, d) => bytes.length + uptoBulk d + 1
  | (_, d) => uptoBulk d + 1
 end
def uptoSmall : (H : Type) → List (DataW H) → Bool := fun _ ds => decide (uptoBulkAll ds ≤ 1048576)
def OpenSpec.upto (s : _root_.Go.ChangeSpec) : _root_.Go.OpenSpec := { _root_.Go.OpenSpec.ofChange s with cond := some uptoSmall }

/-- 'chattellaw12.BitempApart', WHERE WHAT IT READS IS OF BULK AT MOST 1048576: true; the input reads as it did. -/
def bitempApartUptoRow : OpenClaim := { program := "ytkloijkfaooodaa", sum := "0a05ec12f11b1dba083fee29bb740a6ee84fea052016c80b2a68c7d88c6cfc2c", func := "chattel/chattellaw12.BitempApart", spec := "bitempApart", unfollowed := true, recurses := true, plainKeys := false, apart := false, narrowed := true }
def BitempApartUptoSaid : Prop := bitempApartUptoRow.holds Try.pinned (OpenSpec.upto bitempApartSpec)

/-- 'chattellaw12.BitempPlays', WHERE WHAT IT READS IS OF BULK AT MOST 1048576: true; the input reads as it did. -/
def bitempPlaysUptoRow : OpenClaim := { program := "ytkloijkfaooodaa", sum := "0a05ec12f11b1dba083fee29bb740a6ee84fea052016c80b2a68c7d88c6cfc2c", func := "chattel/chattellaw12.BitempPlays", spec := "bitempPlays", unfollowed := true, recurses := true, plainKeys := false, apart := false, narrowed := true }
def BitempPlaysUptoSaid : Prop := bitempPlaysUptoRow.holds Try.pinned (OpenSpec.upto bitempPlaysSpec)

/-- 'chattellaw12.BitempDecodes', WHERE WHAT IT READS IS OF BULK AT MOST 1048576: true; the input reads as it did. -/
def bitempDecodesUptoRow : OpenClaim := { program := "ytkloijkfaooodaa", sum := "0a05ec12f11b1dba083fee29bb740a6ee84fea052016c80b2a68c7d88c6cfc2c", func := "chattel/chattellaw12.BitempDecodes", spec := "bitempDecodes", unfollowed := true, recurses := true, plainKeys := false, apart := false, narrowed := true }
def BitempDecodesUptoSaid : Prop := bitempDecodesUptoRow.holds Try.pinned (OpenSpec.upto bitempDecodesSpec)

/-- 'chattellaw12.BitempCodes', WHERE WHAT IT READS IS OF BULK AT MOST 1048576: true; the input reads as it did. -/
def bitempCodesUptoRow : OpenClaim := { program := "ytkloijkfaooodaa", sum := "0a05ec12f11b1dba083fee29bb740a6ee84fea052016c80b2a68c7d88c6cfc2c", func := "chattel/chattellaw12.BitempCodes", spec := "bitempCodes", unfollowed := true, recurses := true, plainKeys := false, apart := false, narrowed := true }
def BitempCodesUptoSaid : Prop := bitempCodesUptoRow.holds Try.pinned (OpenSpec.upto bitempCodesSpec)

/-- 'chattellaw12.BitempLooks', WHERE WHAT IT READS IS OF BULK AT MOST 1048576: true; the input reads as it did. -/
def bitempLooksUptoRow : OpenClaim := { program := "ytkloijkfaooodaa", sum := "0a05ec12f11b1dba083fee29bb740a6ee84fea052016c80b2a68c7d88c6cfc2c", func := "chattel/chattellaw12.BitempLooks", spec := "bitempLooks", unfollowed := true, recurses := true, plainKeys := false, apart := false, narrowed := true }
def BitempLooksUptoSaid : Prop := bitempLooksUptoRow.holds Try.pinned (OpenSpec.upto bitempLooksSpec)

/-- 'chattellaw12.BitempKnows', WHERE WHAT IT READS IS OF BULK AT MOST 1048576: true; the input reads as it did. -/
def bitempKnowsUptoRow : OpenClaim := { program := "ytkloijkfaooodaa", sum := "0a05ec12f11b1dba083fee29bb740a6ee84fea052016c80b2a68c7d88c6cfc2c", func := "chattel/chattellaw12.BitempKnows", spec := "bitempKnows", unfollowed := true, recurses := true, plainKeys := false, apart := false, narrowed := true }
def BitempKnowsUptoSaid : Prop := bitempKnowsUptoRow.holds Try.pinned (OpenSpec.upto bitempKnowsSpec)

/-- 'chattellaw12.BitempNil', WHERE WHAT IT READS IS OF BULK AT MOST 1048576: true; the input reads as it did. -/
def bitempNilUptoRow : OpenClaim := { program := "ytkloijkfaooodaa", sum := "0a05ec12f11b1dba083fee29bb740a6ee84fea052016c80b2a68c7d88c6cfc2c", func := "chattel/chattellaw12.BitempNil", spec := "bitempNil", inPlace := ["maps.clone"], unfollowed := true, recurses := true, plainKeys := false, apart := false, narrowed := true }
def BitempNilUptoSaid : Prop := bitempNilUptoRow.holds Try.pinned (OpenSpec.upto bitempNilSpec)

end Rows
end Go.Proofs.Ytkloijkfaooodaa

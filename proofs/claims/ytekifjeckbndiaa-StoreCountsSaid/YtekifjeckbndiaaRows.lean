/-
  No cell of these rows narrows 'for every input' (looked for: loops, veiled, ifaces, maps, wideKeys, modest, calm, conditions, laid).
  DERIVED. THE GIVEN ROWS OF THIS SEAT. 11 by the template 'for every input the law returns true; each argument reads behind the call as it read before'; 0 by the template 'total and deterministic' (their statements: YtekifjeckbndiaaTotals.lean).
  GIVEN WITH THE SEED: the statements are not yours to turn. If you find one false, say at which input.
  Laid BY PROGRAM, IN A SANDBOX (cutbox-rows.mjs): the forced cells as the released guide's own fill.sh prints them over the translation afa39af0404707f4… (all of the seat's roots in one cut). By AI agents, Wed Nov 11 2026. No macro, syntax, notation, axiom, sorry.
-/
import Derived.Test.YtekifjeckbndiaaChecked
import GoSem.Claim
import GoSem.ClaimJoined
import GoSem.ClaimMapViews
import Derived.JoinedTies
import Derived.KernelRfl
namespace Go.Proofs.Ytekifjeckbndiaa
/- THE CELL 'sum', in the pinned program and in every row, IS THE sha256 OF THE DUMP (.gsa) THAT YtekifjeckbndiaaProg.lean LOADS. Nothing in Lean hashes anything: it is a label: what it is worth is what the hold of that sum in a sandbox is worth. -/
noncomputable def Try.pinned : Pinned := { name := "ytekifjeckbndiaa", sum := "afa39af0404707f4afb99d3c2c3eee244179738fb54cd92633747122ed94902d", checked := Try.checked }
namespace Rows
def none {H : Type} : Left H := { results := [], args := [] }

/-- 'grafterlaw20.Members': WHATEVER THE INPUT: true; the input reads as it did. -/
def membersSpec : ChangeSpec := { name := "members", fn := fun _ => fun
  | [d1, d2, d3] => { results := [.lit (.bool true)], args := [d1, d2, d3] }
  | _ => none }
def membersRow : OpenClaim := { program := "ytekifjeckbndiaa", sum := "afa39af0404707f4afb99d3c2c3eee244179738fb54cd92633747122ed94902d", func := "grafter/grafterlaw20.Members", spec := "members", unfollowed := true, recurses := true, apart := false }
def MembersSaid : Prop := membersRow.holds Try.pinned (OpenSpec.ofChange membersSpec)

/-- ITS FALSE NEIGHBOUR: 'it returns false'. Refute it at one input. -/
def membersWrong : ChangeSpec := { name := "members", fn := fun _ => fun
  | [d1, d2, d3] => { results := [.lit (.bool false)], args := [d1, d2, d3] }
  | _ => none }
def MembersWrongFalsely : Prop := membersRow.holds Try.pinned (OpenSpec.ofChange membersWrong)

/-- 'grafterlaw20.MemberForms': WHATEVER THE INPUT: true; the input reads as it did. -/
def memberFormsSpec : ChangeSpec := { name := "memberForms", fn := fun _ => fun
  | [d1, d2] => { results := [.lit (.bool true)], args := [d1, d2] }
  | _ => none }
def memberFormsRow : OpenClaim := { program := "ytekifjeckbndiaa", sum := "afa39af0404707f4afb99d3c2c3eee244179738fb54cd92633747122ed94902d", func := "grafter/grafterlaw20.MemberForms", spec := "memberForms", unfollowed := true, recurses := true, apart := false }
def MemberFormsSaid : Prop := memberFormsRow.holds Try.pinned (OpenSpec.ofChange memberFormsSpec)

/-- ITS FALSE NEIGHBOUR: 'it returns false'. Refute it at one input. -/
def memberFormsWrong : ChangeSpec := { name := "memberForms", fn := fun _ => fun
  | [d1, d2] => { results := [.lit (.bool false)], args := [d1, d2] }
  | _ => none }
def MemberFormsWrongFalsely : Prop := memberFormsRow.holds Try.pinned (OpenSpec.ofChange memberFormsWrong)

/-- 'grafterlaw20.MemberFirst': WHATEVER THE INPUT: true; the input reads as it did. -/
def memberFirstSpec : ChangeSpec := { name := "memberFirst", fn := fun _ => fun
  | [d1, d2] => { results := [.lit (.bool true)], args := [d1, d2] }
  | _ => none }
def memberFirstRow : OpenClaim := { program := "ytekifjeckbndiaa", sum := "afa39af0404707f4afb99d3c2c3eee244179738fb54cd92633747122ed94902d", func := "grafter/grafterlaw20.MemberFirst", spec := "memberFirst", unfollowed := true, recurses := true, apart := false }
def MemberFirstSaid : Prop := memberFirstRow.holds Try.pinned (OpenSpec.ofChange memberFirstSpec)

/-- ITS FALSE NEIGHBOUR: 'it returns false'. Refute it at one input. -/
def memberFirstWrong : ChangeSpec := { name := "memberFirst", fn := fun _ => fun
  | [d1, d2] => { results := [.lit (.bool false)], args := [d1, d2] }
  | _ => none }
def MemberFirstWrongFalsely : Prop := memberFirstRow.holds Try.pinned (OpenSpec.ofChange memberFirstWrong)

/-- 'grafterlaw20.MemberScore': WHATEVER THE INPUT: true; the input reads as it did. -/
def memberScoreSpec : ChangeSpec := { name := "memberScore", fn := fun _ => fun
  | [d1, d2, d3, d4, d5] => { results := [.lit (.bool true)], args := [d1, d2, d3, d4, d5] }
  | _ => none }
def memberScoreRow : OpenClaim := { program := "ytekifjeckbndiaa", sum := "afa39af0404707f4afb99d3c2c3eee244179738fb54cd92633747122ed94902d", func := "grafter/grafterlaw20.MemberScore", spec := "memberScore", unfollowed := true, recurses := true, apart := false }
def MemberScoreSaid : Prop := memberScoreRow.holds Try.pinned (OpenSpec.ofChange memberScoreSpec)

/-- ITS FALSE NEIGHBOUR: 'it returns false'. Refute it at one input. -/
def memberScoreWrong : ChangeSpec := { name := "memberScore", fn := fun _ => fun
  | [d1, d2, d3, d4, d5] => { results := [.lit (.bool false)], args := [d1, d2, d3, d4, d5] }
  | _ => none }
def MemberScoreWrongFalsely : Prop := memberScoreRow.holds Try.pinned (OpenSpec.ofChange memberScoreWrong)

/-- 'grafterlaw20.MemberApart': WHATEVER THE INPUT: true; the input reads as it did. -/
def memberApartSpec : ChangeSpec := { name := "memberApart", fn := fun _ => fun
  | [d1, d2, d3, d4] => { results := [.lit (.bool true)], args := [d1, d2, d3, d4] }
  | _ => none }
def memberApartRow : OpenClaim := { program := "ytekifjeckbndiaa", sum := "afa39af0404707f4afb99d3c2c3eee244179738fb54cd92633747122ed94902d", func := "grafter/grafterlaw20.MemberApart", spec := "memberApart", unfollowed := true, recurses := true, apart := false }
def MemberApartSaid : Prop := memberApartRow.holds Try.pinned (OpenSpec.ofChange memberApartSpec)

/-- ITS FALSE NEIGHBOUR: 'it returns false'. Refute it at one input. -/
def memberApartWrong : ChangeSpec := { name := "memberApart", fn := fun _ => fun
  | [d1, d2, d3, d4] => { results := [.lit (.bool false)], args := [d1, d2, d3, d4] }
  | _ => none }
def MemberApartWrongFalsely : Prop := memberApartRow.holds Try.pinned (OpenSpec.ofChange memberApartWrong)

/-- 'grafterlaw15.Stores': WHATEVER THE INPUT: true; the input reads as it did. -/
def storesSpec : ChangeSpec := { name := "stores", fn := fun _ => fun
  | [d1, d2, d3] => { results := [.lit (.bool true)], args := [d1, d2, d3] }
  | _ => none }
def storesRow : OpenClaim := { program := "ytekifjeckbndiaa", sum := "afa39af0404707f4afb99d3c2c3eee244179738fb54cd92633747122ed94902d", func := "grafter/grafterlaw15.Stores", spec := "stores", inPlace := ["slices.overlaps[grafter/api.Entry]"], unfollowed := true, recurses := true, apart := false }
def StoresSaid : Prop := storesRow.holds Try.pinned (OpenSpec.ofChange storesSpec)

/-- ITS FALSE NEIGHBOUR: 'it returns false'. Refute it at one input. -/
def storesWrong : ChangeSpec := { name := "stores", fn := fun _ => fun
  | [d1, d2, d3] => { results := [.lit (.bool false)], args := [d1, d2, d3] }
  | _ => none }
def StoresWrongFalsely : Prop := storesRow.holds Try.pinned (OpenSpec.ofChange storesWrong)

/-- 'grafterlaw15.StoreForms': WHATEVER THE INPUT: true; the input reads as it did. -/
def storeFormsSpec : ChangeSpec := { name := "storeForms", fn := fun _ => fun
  | [d1, d2] => { results := [.lit (.bool true)], args := [d1, d2] }
  | _ => none }
def storeFormsRow : OpenClaim := { program := "ytekifjeckbndiaa", sum := "afa39af0404707f4afb99d3c2c3eee244179738fb54cd92633747122ed94902d", func := "grafter/grafterlaw15.StoreForms", spec := "storeForms", inPlace := ["slices.overlaps[grafter/api.Entry]"], unfollowed := true, recurses := true, apart := false }
def StoreFormsSaid : Prop := storeFormsRow.holds Try.pinned (OpenSpec.ofChange storeFormsSpec)

/-- ITS FALSE NEIGHBOUR: 'it returns false'. Refute it at one input. -/
def storeFormsWrong : ChangeSpec := { name := "storeForms", fn := fun _ => fun
  | [d1, d2] => { results := [.lit (.bool false)], args := [d1, d2] }
  | _ => none }
def StoreFormsWrongFalsely : Prop := storeFormsRow.holds Try.pinned (OpenSpec.ofChange storeFormsWrong)

/-- 'grafterlaw15.StoreCounts': WHATEVER THE INPUT: true; the input reads as it did. -/
def storeCountsSpec : ChangeSpec := { name := "storeCounts", fn := fun _ => fun
  | [d] => { results := [.lit (.bool true)], args := [d] }
  | _ => none }
def storeCountsRow : OpenClaim := { program := "ytekifjeckbndiaa", sum := "afa39af0404707f4afb99d3c2c3eee244179738fb54cd92633747122ed94902d", func := "grafter/grafterlaw15.StoreCounts", spec := "storeCounts", inPlace := ["slices.overlaps[grafter/api.Entry]"], unfollowed := true, recurses := true, apart := false }
def StoreCountsSaid : Prop := storeCountsRow.holds Try.pinned (OpenSpec.ofChange storeCountsSpec)

/-- ITS FALSE NEIGHBOUR: 'it returns false'. Refute it at one input. -/
def storeCountsWrong : ChangeSpec := { name := "storeCounts", fn := fun _ => fun
  | [d] => { results := [.lit (.bool false)], args := [d] }
  | _ => none }
def StoreCountsWrongFalsely : Prop := storeCountsRow.holds Try.pinned (OpenSpec.ofChange storeCountsWrong)

/-- 'grafterlaw15.StoreOther': WHATEVER THE INPUT: true; the input reads as it did. -/
def storeOtherSpec : ChangeSpec := { name := "storeOther", fn := fun _ => fun
  | [d1, d2, d3, d4] => { results := [.lit (.bool true)], args := [d1, d2, d3, d4] }
  | _ => none }
def storeOtherRow : OpenClaim := { program := "ytekifjeckbndiaa", sum := "afa39af0404707f4afb99d3c2c3eee244179738fb54cd92633747122ed94902d", func := "grafter/grafterlaw15.StoreOther", spec := "storeOther", inPlace := ["slices.overlaps[grafter/api.Entry]"], unfollowed := true, recurses := true, apart := false }
def StoreOtherSaid : Prop := storeOtherRow.holds Try.pinned (OpenSpec.ofChange storeOtherSpec)

/-- ITS FALSE NEIGHBOUR: 'it returns false'. Refute it at one input. -/
def storeOtherWrong : ChangeSpec := { name := "storeOther", fn := fun _ => fun
  | [d1, d2, d3, d4] => { results := [.lit (.bool false)], args := [d1, d2, d3, d4] }
  | _ => none }
def StoreOtherWrongFalsely : Prop := storeOtherRow.holds Try.pinned (OpenSpec.ofChange storeOtherWrong)

/-- 'grafterlaw15.StoreAgain': WHATEVER THE INPUT: true; the input reads as it did. -/
def storeAgainSpec : ChangeSpec := { name := "storeAgain", fn := fun _ => fun
  | [d1, d2] => { results := [.lit (.bool true)], args := [d1, d2] }
  | _ => none }
def storeAgainRow : OpenClaim := { program := "ytekifjeckbndiaa", sum := "afa39af0404707f4afb99d3c2c3eee244179738fb54cd92633747122ed94902d", func := "grafter/grafterlaw15.StoreAgain", spec := "storeAgain", inPlace := ["slices.overlaps[grafter/api.Entry]"], unfollowed := true, recurses := true, apart := false }
def StoreAgainSaid : Prop := storeAgainRow.holds Try.pinned (OpenSpec.ofChange storeAgainSpec)

/-- ITS FALSE NEIGHBOUR: 'it returns false'. Refute it at one input. -/
def storeAgainWrong : ChangeSpec := { name := "storeAgain", fn := fun _ => fun
  | [d1, d2] => { results := [.lit (.bool false)], args := [d1, d2] }
  | _ => none }
def StoreAgainWrongFalsely : Prop := storeAgainRow.holds Try.pinned (OpenSpec.ofChange storeAgainWrong)

/-- 'grafterlaw15.StoreLeast': WHATEVER THE INPUT: true; the input reads as it did. -/
def storeLeastSpec : ChangeSpec := { name := "storeLeast", fn := fun _ => fun
  | [d1, d2] => { results := [.lit (.bool true)], args := [d1, d2] }
  | _ => none }
def storeLeastRow : OpenClaim := { program := "ytekifjeckbndiaa", sum := "afa39af0404707f4afb99d3c2c3eee244179738fb54cd92633747122ed94902d", func := "grafter/grafterlaw15.StoreLeast", spec := "storeLeast", inPlace := ["slices.overlaps[grafter/api.Entry]"], unfollowed := true, recurses := true, apart := false }
def StoreLeastSaid : Prop := storeLeastRow.holds Try.pinned (OpenSpec.ofChange storeLeastSpec)

/-- ITS FALSE NEIGHBOUR: 'it returns false'. Refute it at one input. -/
def storeLeastWrong : ChangeSpec := { name := "storeLeast", fn := fun _ => fun
  | [d1, d2] => { results := [.lit (.bool false)], args := [d1, d2] }
  | _ => none }
def StoreLeastWrongFalsely : Prop := storeLeastRow.holds Try.pinned (OpenSpec.ofChange storeLeastWrong)

/- THE SECOND FORM. 'bulk': how many values and letters a reading holds, each counted each time it is reached (what is shared counts as often as it is met; a slice's spare places count too). A statement '..UptoSaid' is the law's where the arguments, and the package variables that the reading takes, are together of bulk at most 1048576: NARROWER than '..Said'. Prove '..Said' where nothing that the law and all that it calls make is longer than what came in: it says more and counts as full. Else prove '..UptoSaid'. A law counts once. -/
mutual
def uptoBulk {H : Type} : DataW H → Nat
  | .lit (.string bytes) => bytes.length + 1
  | .lit _ => 1
  | .nil => 1
  | .ptr d => uptoBulk d + 1
  | .slice elems spare => uptoBulkAll elems + uptoBulkAll spare + 1
  | .agg parts => uptoBulkAll parts + 1
  | .iface _ d => uptoBulk d + 1
  | .map entries => uptoBulkEntries entries + 1
  | .held _ => 1
def uptoBulkAll {H : Type} : List (DataW H) → Nat
  | [] => 0
  | d :: r => uptoBulk d + uptoBulkAll r
def uptoBulkEntries {H : Type} : List (Lit × DataW H) → Nat
  | [] => 0
  | x :: r => uptoBulkEntry x + uptoBulkEntries r
def uptoBulkEntry {H : Type} : Lit × DataW H → Nat
  | (.string bytes, d) => bytes.length + uptoBulk d + 1
  | (_, d) => uptoBulk d + 1
 end
def uptoSmall : (H : Type) → List (DataW H) → Bool := fun _ ds => decide (uptoBulkAll ds ≤ 1048576)
def OpenSpec.upto (s : _root_.Go.ChangeSpec) : _root_.Go.OpenSpec := { _root_.Go.OpenSpec.ofChange s with cond := some uptoSmall }

/-- 'grafterlaw20.Members', WHERE WHAT IT READS IS OF BULK AT MOST 1048576: true; the input reads as it did. -/
def membersUptoRow : OpenClaim := { program := "ytekifjeckbndiaa", sum := "afa39af0404707f4afb99d3c2c3eee244179738fb54cd92633747122ed94902d", func := "grafter/grafterlaw20.Members", spec := "members", unfollowed := true, recurses := true, apart := false, narrowed := true }
def MembersUptoSaid : Prop := membersUptoRow.holds Try.pinned (OpenSpec.upto membersSpec)

/-- 'grafterlaw20.MemberForms', WHERE WHAT IT READS IS OF BULK AT MOST 1048576: true; the input reads as it did. -/
def memberFormsUptoRow : OpenClaim := { program := "ytekifjeckbndiaa", sum := "afa39af0404707f4afb99d3c2c3eee244179738fb54cd92633747122ed94902d", func := "grafter/grafterlaw20.MemberForms", spec := "memberForms", unfollowed := true, recurses := true, apart := false, narrowed := true }
def MemberFormsUptoSaid : Prop := memberFormsUptoRow.holds Try.pinned (OpenSpec.upto memberFormsSpec)

/-- 'grafterlaw20.MemberFirst', WHERE WHAT IT READS IS OF BULK AT MOST 1048576: true; the input reads as it did. -/
def memberFirstUptoRow : OpenClaim := { program := "ytekifjeckbndiaa", sum := "afa39af0404707f4afb99d3c2c3eee244179738fb54cd92633747122ed94902d", func := "grafter/grafterlaw20.MemberFirst", spec := "memberFirst", unfollowed := true, recurses := true, apart := false, narrowed := true }
def MemberFirstUptoSaid : Prop := memberFirstUptoRow.holds Try.pinned (OpenSpec.upto memberFirstSpec)

/-- 'grafterlaw20.MemberScore', WHERE WHAT IT READS IS OF BULK AT MOST 1048576: true; the input reads as it did. -/
def memberScoreUptoRow : OpenClaim := { program := "ytekifjeckbndiaa", sum := "afa39af0404707f4afb99d3c2c3eee244179738fb54cd92633747122ed94902d", func := "grafter/grafterlaw20.MemberScore", spec := "memberScore", unfollowed := true, recurses := true, apart := false, narrowed := true }
def MemberScoreUptoSaid : Prop := memberScoreUptoRow.holds Try.pinned (OpenSpec.upto memberScoreSpec)

/-- 'grafterlaw20.MemberApart', WHERE WHAT IT READS IS OF BULK AT MOST 1048576: true; the input reads as it did. -/
def memberApartUptoRow : OpenClaim := { program := "ytekifjeckbndiaa", sum := "afa39af0404707f4afb99d3c2c3eee244179738fb54cd92633747122ed94902d", func := "grafter/grafterlaw20.MemberApart", spec := "memberApart", unfollowed := true, recurses := true, apart := false, narrowed := true }
def MemberApartUptoSaid : Prop := memberApartUptoRow.holds Try.pinned (OpenSpec.upto memberApartSpec)

/-- 'grafterlaw15.Stores', WHERE WHAT IT READS IS OF BULK AT MOST 1048576: true; the input reads as it did. -/
def storesUptoRow : OpenClaim := { program := "ytekifjeckbndiaa", sum := "afa39af0404707f4afb99d3c2c3eee244179738fb54cd92633747122ed94902d", func := "grafter/grafterlaw15.Stores", spec := "stores", inPlace := ["slices.overlaps[grafter/api.Entry]"], unfollowed := true, recurses := true, apart := false, narrowed := true }
def StoresUptoSaid : Prop := storesUptoRow.holds Try.pinned (OpenSpec.upto storesSpec)

/-- 'grafterlaw15.StoreForms', WHERE WHAT IT READS IS OF BULK AT MOST 1048576: true; the input reads as it did. -/
def storeFormsUptoRow : OpenClaim := { program := "ytekifjeckbndiaa", sum := "afa39af0404707f4afb99d3c2c3eee244179738fb54cd92633747122ed94902d", func := "grafter/grafterlaw15.StoreForms", spec := "storeForms", inPlace := ["slices.overlaps[grafter/api.Entry]"], unfollowed := true, recurses := true, apart := false, narrowed := true }
def StoreFormsUptoSaid : Prop := storeFormsUptoRow.holds Try.pinned (OpenSpec.upto storeFormsSpec)

/-- 'grafterlaw15.StoreCounts', WHERE WHAT IT READS IS OF BULK AT MOST 1048576: true; the input reads as it did. -/
def storeCountsUptoRow : OpenClaim := { program := "ytekifjeckbndiaa", sum := "afa39af0404707f4afb99d3c2c3eee244179738fb54cd92633747122ed94902d", func := "grafter/grafterlaw15.StoreCounts", spec := "storeCounts", inPlace := ["slices.overlaps[grafter/api.Entry]"], unfollowed := true, recurses := true, apart := false, narrowed := true }
def StoreCountsUptoSaid : Prop := storeCountsUptoRow.holds Try.pinned (OpenSpec.upto storeCountsSpec)

/-- 'grafterlaw15.StoreOther', WHERE WHAT IT READS IS OF BULK AT MOST 1048576: true; the input reads as it did. -/
def storeOtherUptoRow : OpenClaim := { program := "ytekifjeckbndiaa", sum := "afa39af0404707f4afb99d3c2c3eee244179738fb54cd92633747122ed94902d", func := "grafter/grafterlaw15.StoreOther", spec := "storeOther", inPlace := ["slices.overlaps[grafter/api.Entry]"], unfollowed := true, recurses := true, apart := false, narrowed := true }
def StoreOtherUptoSaid : Prop := storeOtherUptoRow.holds Try.pinned (OpenSpec.upto storeOtherSpec)

/-- 'grafterlaw15.StoreAgain', WHERE WHAT IT READS IS OF BULK AT MOST 1048576: true; the input reads as it did. -/
def storeAgainUptoRow : OpenClaim := { program := "ytekifjeckbndiaa", sum := "afa39af0404707f4afb99d3c2c3eee244179738fb54cd92633747122ed94902d", func := "grafter/grafterlaw15.StoreAgain", spec := "storeAgain", inPlace := ["slices.overlaps[grafter/api.Entry]"], unfollowed := true, recurses := true, apart := false, narrowed := true }
def StoreAgainUptoSaid : Prop := storeAgainUptoRow.holds Try.pinned (OpenSpec.upto storeAgainSpec)

/-- 'grafterlaw15.StoreLeast', WHERE WHAT IT READS IS OF BULK AT MOST 1048576: true; the input reads as it did. -/
def storeLeastUptoRow : OpenClaim := { program := "ytekifjeckbndiaa", sum := "afa39af0404707f4afb99d3c2c3eee244179738fb54cd92633747122ed94902d", func := "grafter/grafterlaw15.StoreLeast", spec := "storeLeast", inPlace := ["slices.overlaps[grafter/api.Entry]"], unfollowed := true, recurses := true, apart := false, narrowed := true }
def StoreLeastUptoSaid : Prop := storeLeastUptoRow.holds Try.pinned (OpenSpec.upto storeLeastSpec)

end Rows
end Go.Proofs.Ytekifjeckbndiaa

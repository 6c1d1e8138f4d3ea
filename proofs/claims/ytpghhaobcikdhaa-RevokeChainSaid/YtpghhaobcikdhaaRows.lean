/-
  No cell of these rows narrows 'for every input' (looked for: loops, veiled, ifaces, maps, wideKeys, modest, calm, conditions, laid).
  DERIVED. THE GIVEN ROWS OF THIS SEAT. 5 by the template 'for every input the law returns true; each argument reads behind the call as it read before'; 0 by the template 'total and deterministic' (their statements: YtpghhaobcikdhaaTotals.lean).
  GIVEN WITH THE SEED: the statements are not yours to turn. If you find one false, say at which input.
  Laid BY PROGRAM, IN A SANDBOX (cutbox-rows.mjs): the forced cells as the released guide's own fill.sh prints them over the translation b3a54bd2a733ec6d… (all of the seat's roots in one cut). By AI agents, Wed Nov 11 2026. No macro, syntax, notation, axiom, sorry.
-/
import Derived.Test.YtpghhaobcikdhaaChecked
import GoSem.Claim
import GoSem.ClaimJoined
import GoSem.ClaimMapViews
import Derived.JoinedTies
import Derived.KernelRfl
namespace Go.Proofs.Ytpghhaobcikdhaa
/- THE CELL 'sum', in the pinned program and in every row, IS THE sha256 OF THE DUMP (.gsa) THAT YtpghhaobcikdhaaProg.lean LOADS. Nothing in Lean hashes anything: it is a label: what it is worth is what the hold of that sum in a sandbox is worth. -/
noncomputable def Try.pinned : Pinned := { name := "ytpghhaobcikdhaa", sum := "b3a54bd2a733ec6d77717f5acaa438a3a27d87e67395b42b025362abaccb7036", checked := Try.checked }
namespace Rows
def none {H : Type} : Left H := { results := [], args := [] }

/-- 'donjonlaw25.BootBytes': WHATEVER THE INPUT: true; the input reads as it did. -/
def bootBytesSpec : ChangeSpec := { name := "bootBytes", fn := fun _ => fun
  | [d1, d2] => { results := [.lit (.bool true)], args := [d1, d2] }
  | _ => none }
def bootBytesRow : OpenClaim := { program := "ytpghhaobcikdhaa", sum := "b3a54bd2a733ec6d77717f5acaa438a3a27d87e67395b42b025362abaccb7036", func := "donjon/donjonlaw25.BootBytes", spec := "bootBytes", inPlace := ["internal/abi.NoEscape"], unfollowed := true, recurses := true, plainKeys := false, apart := false }
def BootBytesSaid : Prop := bootBytesRow.holds Try.pinned (OpenSpec.ofChange bootBytesSpec)

/-- ITS FALSE NEIGHBOUR: 'it returns false'. Refute it at one input. -/
def bootBytesWrong : ChangeSpec := { name := "bootBytes", fn := fun _ => fun
  | [d1, d2] => { results := [.lit (.bool false)], args := [d1, d2] }
  | _ => none }
def BootBytesWrongFalsely : Prop := bootBytesRow.holds Try.pinned (OpenSpec.ofChange bootBytesWrong)

/-- 'donjonlaw11.RevokeChain': WHATEVER THE INPUT: true; the input reads as it did. -/
def revokeChainSpec : ChangeSpec := { name := "revokeChain", fn := fun _ => fun
  | [d1, d2, d3] => { results := [.lit (.bool true)], args := [d1, d2, d3] }
  | _ => none }
def revokeChainRow : OpenClaim := { program := "ytpghhaobcikdhaa", sum := "b3a54bd2a733ec6d77717f5acaa438a3a27d87e67395b42b025362abaccb7036", func := "donjon/donjonlaw11.RevokeChain", spec := "revokeChain", unfollowed := true, recurses := true, plainKeys := false, apart := false }
def RevokeChainSaid : Prop := revokeChainRow.holds Try.pinned (OpenSpec.ofChange revokeChainSpec)

/-- ITS FALSE NEIGHBOUR: 'it returns false'. Refute it at one input. -/
def revokeChainWrong : ChangeSpec := { name := "revokeChain", fn := fun _ => fun
  | [d1, d2, d3] => { results := [.lit (.bool false)], args := [d1, d2, d3] }
  | _ => none }
def RevokeChainWrongFalsely : Prop := revokeChainRow.holds Try.pinned (OpenSpec.ofChange revokeChainWrong)

/-- 'donjonlaw11.RevokeCopies': WHATEVER THE INPUT: true; the input reads as it did. -/
def revokeCopiesSpec : ChangeSpec := { name := "revokeCopies", fn := fun _ => fun
  | [d1, d2] => { results := [.lit (.bool true)], args := [d1, d2] }
  | _ => none }
def revokeCopiesRow : OpenClaim := { program := "ytpghhaobcikdhaa", sum := "b3a54bd2a733ec6d77717f5acaa438a3a27d87e67395b42b025362abaccb7036", func := "donjon/donjonlaw11.RevokeCopies", spec := "revokeCopies", unfollowed := true, recurses := true, plainKeys := false, apart := false }
def RevokeCopiesSaid : Prop := revokeCopiesRow.holds Try.pinned (OpenSpec.ofChange revokeCopiesSpec)

/-- ITS FALSE NEIGHBOUR: 'it returns false'. Refute it at one input. -/
def revokeCopiesWrong : ChangeSpec := { name := "revokeCopies", fn := fun _ => fun
  | [d1, d2] => { results := [.lit (.bool false)], args := [d1, d2] }
  | _ => none }
def RevokeCopiesWrongFalsely : Prop := revokeCopiesRow.holds Try.pinned (OpenSpec.ofChange revokeCopiesWrong)

/-- 'donjonlaw11.RevokeTells': WHATEVER THE INPUT: true; the input reads as it did. -/
def revokeTellsSpec : ChangeSpec := { name := "revokeTells", fn := fun _ => fun
  | [d1, d2, d3, d4] => { results := [.lit (.bool true)], args := [d1, d2, d3, d4] }
  | _ => none }
def revokeTellsRow : OpenClaim := { program := "ytpghhaobcikdhaa", sum := "b3a54bd2a733ec6d77717f5acaa438a3a27d87e67395b42b025362abaccb7036", func := "donjon/donjonlaw11.RevokeTells", spec := "revokeTells", unfollowed := true, recurses := true, plainKeys := false, apart := false }
def RevokeTellsSaid : Prop := revokeTellsRow.holds Try.pinned (OpenSpec.ofChange revokeTellsSpec)

/-- ITS FALSE NEIGHBOUR: 'it returns false'. Refute it at one input. -/
def revokeTellsWrong : ChangeSpec := { name := "revokeTells", fn := fun _ => fun
  | [d1, d2, d3, d4] => { results := [.lit (.bool false)], args := [d1, d2, d3, d4] }
  | _ => none }
def RevokeTellsWrongFalsely : Prop := revokeTellsRow.holds Try.pinned (OpenSpec.ofChange revokeTellsWrong)

/-- 'donjonlaw11.RevokeOthers': WHATEVER THE INPUT: true; the input reads as it did. -/
def revokeOthersSpec : ChangeSpec := { name := "revokeOthers", fn := fun _ => fun
  | [d1, d2] => { results := [.lit (.bool true)], args := [d1, d2] }
  | _ => none }
def revokeOthersRow : OpenClaim := { program := "ytpghhaobcikdhaa", sum := "b3a54bd2a733ec6d77717f5acaa438a3a27d87e67395b42b025362abaccb7036", func := "donjon/donjonlaw11.RevokeOthers", spec := "revokeOthers", unfollowed := true, recurses := true, plainKeys := false, apart := false }
def RevokeOthersSaid : Prop := revokeOthersRow.holds Try.pinned (OpenSpec.ofChange revokeOthersSpec)

/-- ITS FALSE NEIGHBOUR: 'it returns false'. Refute it at one input. -/
def revokeOthersWrong : ChangeSpec := { name := "revokeOthers", fn := fun _ => fun
  | [d1, d2] => { results := [.lit (.bool false)], args := [d1, d2] }
  | _ => none }
def RevokeOthersWrongFalsely : Prop := revokeOthersRow.holds Try.pinned (OpenSpec.ofChange revokeOthersWrong)

/- THE SECOND FORM. 'bulk': how many values and letters a reading holds, each counted each time it is reached (what is shared counts as often as it is met; a slice's spare places count too). A statement '..UptoSaid' is the law's where the arguments, and the package variables that the reading takes, are together of bulk at most 1048576: NARROWER than '..Said'. Prove '..Said' where nothing that the law and all that it calls make is longer than what came in: it says more and counts as full. Else prove '..UptoSaid'. A law counts once. -/
mutual
def uptoBulk {H : Type} : DataW H → Nat
  | .lit (.string bytes) => bytes.length + 1
  | .lit _ => 1
  | .nil => 1
  | .ptr d => uptoBulk d + 1
  | .slice elems spare => uptoBulkAll elems + uptoBulkAll spare + 1
  | .agg parts => uptoBulkAll parts + 1
  | .iface _ d => uptoBulk d + 1
  | .map entries => uptoBulkEntries entries + 1
  | .held _ => 1
def uptoBulkAll {H : Type} : List (DataW H) → Nat
  | [] => 0
  | d :: r => uptoBulk d + uptoBulkAll r
def uptoBulkEntries {H : Type} : List (Lit × DataW H) → Nat
  | [] => 0
  | x :: r => uptoBulkEntry x + uptoBulkEntries r
def uptoBulkEntry {H : Type} : Lit × DataW H → Nat
  | (.string bytes, d) => bytes.length + uptoBulk d + 1
  | (_, d) => uptoBulk d + 1
 end
def uptoSmall : (H : Type) → List (DataW H) → Bool := fun _ ds => decide (uptoBulkAll ds ≤ 1048576)
def OpenSpec.upto (s : _root_.Go.ChangeSpec) : _root_.Go.OpenSpec := { _root_.Go.OpenSpec.ofChange s with cond := some uptoSmall }

/-- 'donjonlaw25.BootBytes', WHERE WHAT IT READS IS OF BULK AT MOST 1048576: true; the input reads as it did. -/
def bootBytesUptoRow : OpenClaim := { program := "ytpghhaobcikdhaa", sum := "b3a54bd2a733ec6d77717f5acaa438a3a27d87e67395b42b025362abaccb7036", func := "donjon/donjonlaw25.BootBytes", spec := "bootBytes", inPlace := ["internal/abi.NoEscape"], unfollowed := true, recurses := true, plainKeys := false, apart := false, narrowed := true }
def BootBytesUptoSaid : Prop := bootBytesUptoRow.holds Try.pinned (OpenSpec.upto bootBytesSpec)

/-- 'donjonlaw11.RevokeChain', WHERE WHAT IT READS IS OF BULK AT MOST 1048576: true; the input reads as it did. -/
def revokeChainUptoRow : OpenClaim := { program := "ytpghhaobcikdhaa", sum := "b3a54bd2a733ec6d77717f5acaa438a3a27d87e67395b42b025362abaccb7036", func := "donjon/donjonlaw11.RevokeChain", spec := "revokeChain", unfollowed := true, recurses := true, plainKeys := false, apart := false, narrowed := true }
def RevokeChainUptoSaid : Prop := revokeChainUptoRow.holds Try.pinned (OpenSpec.upto revokeChainSpec)

/-- 'donjonlaw11.RevokeCopies', WHERE WHAT IT READS IS OF BULK AT MOST 1048576: true; the input reads as it did. -/
def revokeCopiesUptoRow : OpenClaim := { program := "ytpghhaobcikdhaa", sum := "b3a54bd2a733ec6d77717f5acaa438a3a27d87e67395b42b025362abaccb7036", func := "donjon/donjonlaw11.RevokeCopies", spec := "revokeCopies", unfollowed := true, recurses := true, plainKeys := false, apart := false, narrowed := true }
def RevokeCopiesUptoSaid : Prop := revokeCopiesUptoRow.holds Try.pinned (OpenSpec.upto revokeCopiesSpec)

/-- 'donjonlaw11.RevokeTells', WHERE WHAT IT READS IS OF BULK AT MOST 1048576: true; the input reads as it did. -/
def revokeTellsUptoRow : OpenClaim := { program := "ytpghhaobcikdhaa", sum := "b3a54bd2a733ec6d77717f5acaa438a3a27d87e67395b42b025362abaccb7036", func := "donjon/donjonlaw11.RevokeTells", spec := "revokeTells", unfollowed := true, recurses := true, plainKeys := false, apart := false, narrowed := true }
def RevokeTellsUptoSaid : Prop := revokeTellsUptoRow.holds Try.pinned (OpenSpec.upto revokeTellsSpec)

/-- 'donjonlaw11.RevokeOthers', WHERE WHAT IT READS IS OF BULK AT MOST 1048576: true; the input reads as it did. -/
def revokeOthersUptoRow : OpenClaim := { program := "ytpghhaobcikdhaa", sum := "b3a54bd2a733ec6d77717f5acaa438a3a27d87e67395b42b025362abaccb7036", func := "donjon/donjonlaw11.RevokeOthers", spec := "revokeOthers", unfollowed := true, recurses := true, plainKeys := false, apart := false, narrowed := true }
def RevokeOthersUptoSaid : Prop := revokeOthersUptoRow.holds Try.pinned (OpenSpec.upto revokeOthersSpec)

end Rows
end Go.Proofs.Ytpghhaobcikdhaa

/-
  No cell of these rows narrows 'for every input' (looked for: loops, veiled, ifaces, maps, wideKeys, modest, calm, conditions, laid).
  DERIVED. THE GIVEN ROWS OF THIS SEAT. 5 by the template 'for every input the law returns true; each argument reads behind the call as it read before'; 0 by the template 'total and deterministic' (their statements: YtdfjjhpnhaggjaaTotals.lean).
  GIVEN WITH THE SEED: the statements are not yours to turn. If you find one false, say at which input.
  Laid BY PROGRAM, IN A SANDBOX (cutbox-rows.mjs): the forced cells as the released guide's own fill.sh prints them over the translation 03a3f0606bc755e7… (all of the seat's roots in one cut). By AI agents, Wed Nov 11 2026. No macro, syntax, notation, axiom, sorry.
-/
import Derived.Test.YtdfjjhpnhaggjaaChecked
import GoSem.Claim
import GoSem.ClaimJoined
import GoSem.ClaimMapViews
import Derived.JoinedTies
import Derived.KernelRfl
namespace Go.Proofs.Ytdfjjhpnhaggjaa
/- THE CELL 'sum', in the pinned program and in every row, IS THE sha256 OF THE DUMP (.gsa) THAT YtdfjjhpnhaggjaaProg.lean LOADS. Nothing in Lean hashes anything: it is a label: what it is worth is what the hold of that sum in a sandbox is worth. -/
noncomputable def Try.pinned : Pinned := { name := "ytdfjjhpnhaggjaa", sum := "03a3f0606bc755e70330571ee051e99b052601b7fd98700c55317275a63c0edd", checked := Try.checked }
namespace Rows
def none {H : Type} : Left H := { results := [], args := [] }

/-- 'almonrylaw18.SampleSame': WHATEVER THE INPUT: true; the input reads as it did. -/
def sampleSameSpec : ChangeSpec := { name := "sampleSame", fn := fun _ => fun
  | [d1, d2, d3] => { results := [.lit (.bool true)], args := [d1, d2, d3] }
  | _ => none }
def sampleSameRow : OpenClaim := { program := "ytdfjjhpnhaggjaa", sum := "03a3f0606bc755e70330571ee051e99b052601b7fd98700c55317275a63c0edd", func := "almonry/almonrylaw18.SampleSame", spec := "sampleSame", plainKeys := false, apart := false }
def SampleSameSaid : Prop := sampleSameRow.holds Try.pinned (OpenSpec.ofChange sampleSameSpec)

/-- ITS FALSE NEIGHBOUR: 'it returns false'. Refute it at one input. -/
def sampleSameWrong : ChangeSpec := { name := "sampleSame", fn := fun _ => fun
  | [d1, d2, d3] => { results := [.lit (.bool false)], args := [d1, d2, d3] }
  | _ => none }
def SampleSameWrongFalsely : Prop := sampleSameRow.holds Try.pinned (OpenSpec.ofChange sampleSameWrong)

/-- 'almonrylaw20.ChannelReaches': WHATEVER THE INPUT: true; the input reads as it did. -/
def channelReachesSpec : ChangeSpec := { name := "channelReaches", fn := fun _ => fun
  | [d1, d2, d3] => { results := [.lit (.bool true)], args := [d1, d2, d3] }
  | _ => none }
def channelReachesRow : OpenClaim := { program := "ytdfjjhpnhaggjaa", sum := "03a3f0606bc755e70330571ee051e99b052601b7fd98700c55317275a63c0edd", func := "almonry/almonrylaw20.ChannelReaches", spec := "channelReaches", unfollowed := true, recurses := true, plainKeys := false, apart := false }
def ChannelReachesSaid : Prop := channelReachesRow.holds Try.pinned (OpenSpec.ofChange channelReachesSpec)

/-- ITS FALSE NEIGHBOUR: 'it returns false'. Refute it at one input. -/
def channelReachesWrong : ChangeSpec := { name := "channelReaches", fn := fun _ => fun
  | [d1, d2, d3] => { results := [.lit (.bool false)], args := [d1, d2, d3] }
  | _ => none }
def ChannelReachesWrongFalsely : Prop := channelReachesRow.holds Try.pinned (OpenSpec.ofChange channelReachesWrong)

/-- 'almonrylaw20.ChannelGoes': WHATEVER THE INPUT: true; the input reads as it did. -/
def channelGoesSpec : ChangeSpec := { name := "channelGoes", fn := fun _ => fun
  | [d1, d2, d3] => { results := [.lit (.bool true)], args := [d1, d2, d3] }
  | _ => none }
def channelGoesRow : OpenClaim := { program := "ytdfjjhpnhaggjaa", sum := "03a3f0606bc755e70330571ee051e99b052601b7fd98700c55317275a63c0edd", func := "almonry/almonrylaw20.ChannelGoes", spec := "channelGoes", unfollowed := true, recurses := true, plainKeys := false, apart := false }
def ChannelGoesSaid : Prop := channelGoesRow.holds Try.pinned (OpenSpec.ofChange channelGoesSpec)

/-- ITS FALSE NEIGHBOUR: 'it returns false'. Refute it at one input. -/
def channelGoesWrong : ChangeSpec := { name := "channelGoes", fn := fun _ => fun
  | [d1, d2, d3] => { results := [.lit (.bool false)], args := [d1, d2, d3] }
  | _ => none }
def ChannelGoesWrongFalsely : Prop := channelGoesRow.holds Try.pinned (OpenSpec.ofChange channelGoesWrong)

/-- 'almonrylaw20.ChannelApart': WHATEVER THE INPUT: true; the input reads as it did. -/
def channelApartSpec : ChangeSpec := { name := "channelApart", fn := fun _ => fun
  | [d1, d2, d3] => { results := [.lit (.bool true)], args := [d1, d2, d3] }
  | _ => none }
def channelApartRow : OpenClaim := { program := "ytdfjjhpnhaggjaa", sum := "03a3f0606bc755e70330571ee051e99b052601b7fd98700c55317275a63c0edd", func := "almonry/almonrylaw20.ChannelApart", spec := "channelApart", unfollowed := true, recurses := true, plainKeys := false, apart := false }
def ChannelApartSaid : Prop := channelApartRow.holds Try.pinned (OpenSpec.ofChange channelApartSpec)

/-- ITS FALSE NEIGHBOUR: 'it returns false'. Refute it at one input. -/
def channelApartWrong : ChangeSpec := { name := "channelApart", fn := fun _ => fun
  | [d1, d2, d3] => { results := [.lit (.bool false)], args := [d1, d2, d3] }
  | _ => none }
def ChannelApartWrongFalsely : Prop := channelApartRow.holds Try.pinned (OpenSpec.ofChange channelApartWrong)

/-- 'almonrylaw20.ChannelPlays': WHATEVER THE INPUT: true; the input reads as it did. -/
def channelPlaysSpec : ChangeSpec := { name := "channelPlays", fn := fun _ => fun
  | [d1, d2, d3] => { results := [.lit (.bool true)], args := [d1, d2, d3] }
  | _ => none }
def channelPlaysRow : OpenClaim := { program := "ytdfjjhpnhaggjaa", sum := "03a3f0606bc755e70330571ee051e99b052601b7fd98700c55317275a63c0edd", func := "almonry/almonrylaw20.ChannelPlays", spec := "channelPlays", unfollowed := true, recurses := true, plainKeys := false, apart := false }
def ChannelPlaysSaid : Prop := channelPlaysRow.holds Try.pinned (OpenSpec.ofChange channelPlaysSpec)

/-- ITS FALSE NEIGHBOUR: 'it returns false'. Refute it at one input. -/
def channelPlaysWrong : ChangeSpec := { name := "channelPlays", fn := fun _ => fun
  | [d1, d2, d3] => { results := [.lit (.bool false)], args := [d1, d2, d3] }
  | _ => none }
def ChannelPlaysWrongFalsely : Prop := channelPlaysRow.holds Try.pinned (OpenSpec.ofChange channelPlaysWrong)

/- THE SECOND FORM. 'bulk': how many values and letters a reading holds, each counted each time it is reached (what is shared counts as often as it is met; a slice's spare places count too). A statement '..UptoSaid' is the law's where the arguments, and the package variables that the reading takes, are together of bulk at most 1048576: NARROWER than '..Said'. Prove '..Said' where nothing that the law and all that it calls make is longer than what came in: it says more and counts as full. Else prove '..UptoSaid'. A law counts once. -/
mutual
def uptoBulk {H : Type} : DataW H → Nat
  | .lit (.string bytes) => bytes.length + 1
  | .lit _ => 1
  | .nil => 1
  | .ptr d => uptoBulk d + 1
  | .slice elems spare => uptoBulkAll elems + uptoBulkAll spare + 1
  | .agg parts => uptoBulkAll parts + 1
  | .iface _ d => uptoBulk d + 1
  | .map entries => uptoBulkEntries entries + 1
  | .held _ => 1
def uptoBulkAll {H : Type} : List (DataW H) → Nat
  | [] => 0
  | d :: r => uptoBulk d + uptoBulkAll r
def uptoBulkEntries {H : Type} : List (Lit × DataW H) → Nat
  | [] => 0
  | x :: r => uptoBulkEntry x + uptoBulkEntries r
def uptoBulkEntry {H : Type} : Lit × DataW H → Nat
  | (.string bytes, d) => bytes.length + uptoBulk d + 1
  | (_, d) => uptoBulk d + 1
 end
def uptoSmall : (H : Type) → List (DataW H) → Bool := fun _ ds => decide (uptoBulkAll ds ≤ 1048576)
def OpenSpec.upto (s : _root_.Go.ChangeSpec) : _root_.Go.OpenSpec := { _root_.Go.OpenSpec.ofChange s with cond := some uptoSmall }

/-- 'almonrylaw18.SampleSame', WHERE WHAT IT READS IS OF BULK AT MOST 1048576: true; the input reads as it did. -/
def sampleSameUptoRow : OpenClaim := { program := "ytdfjjhpnhaggjaa", sum := "03a3f0606bc755e70330571ee051e99b052601b7fd98700c55317275a63c0edd", func := "almonry/almonrylaw18.SampleSame", spec := "sampleSame", plainKeys := false, apart := false, narrowed := true }
def SampleSameUptoSaid : Prop := sampleSameUptoRow.holds Try.pinned (OpenSpec.upto sampleSameSpec)

/-- 'almonrylaw20.ChannelReaches', WHERE WHAT IT READS IS OF BULK AT MOST 1048576: true; the input reads as it did. -/
def channelReachesUptoRow : OpenClaim := { program := "ytdfjjhpnhaggjaa", sum := "03a3f0606bc755e70330571ee051e99b052601b7fd98700c55317275a63c0edd", func := "almonry/almonrylaw20.ChannelReaches", spec := "channelReaches", unfollowed := true, recurses := true, plainKeys := false, apart := false, narrowed := true }
def ChannelReachesUptoSaid : Prop := channelReachesUptoRow.holds Try.pinned (OpenSpec.upto channelReachesSpec)

/-- 'almonrylaw20.ChannelGoes', WHERE WHAT IT READS IS OF BULK AT MOST 1048576: true; the input reads as it did. -/
def channelGoesUptoRow : OpenClaim := { program := "ytdfjjhpnhaggjaa", sum := "03a3f0606bc755e70330571ee051e99b052601b7fd98700c55317275a63c0edd", func := "almonry/almonrylaw20.ChannelGoes", spec := "channelGoes", unfollowed := true, recurses := true, plainKeys := false, apart := false, narrowed := true }
def ChannelGoesUptoSaid : Prop := channelGoesUptoRow.holds Try.pinned (OpenSpec.upto channelGoesSpec)

/-- 'almonrylaw20.ChannelApart', WHERE WHAT IT READS IS OF BULK AT MOST 1048576: true; the input reads as it did. -/
def channelApartUptoRow : OpenClaim := { program := "ytdfjjhpnhaggjaa", sum := "03a3f0606bc755e70330571ee051e99b052601b7fd98700c55317275a63c0edd", func := "almonry/almonrylaw20.ChannelApart", spec := "channelApart", unfollowed := true, recurses := true, plainKeys := false, apart := false, narrowed := true }
def ChannelApartUptoSaid : Prop := channelApartUptoRow.holds Try.pinned (OpenSpec.upto channelApartSpec)

/-- 'almonrylaw20.ChannelPlays', WHERE WHAT IT READS IS OF BULK AT MOST 1048576: true; the input reads as it did. -/
def channelPlaysUptoRow : OpenClaim := { program := "ytdfjjhpnhaggjaa", sum := "03a3f0606bc755e70330571ee051e99b052601b7fd98700c55317275a63c0edd", func := "almonry/almonrylaw20.ChannelPlays", spec := "channelPlays", unfollowed := true, recurses := true, plainKeys := false, apart := false, narrowed := true }
def ChannelPlaysUptoSaid : Prop := channelPlaysUptoRow.holds Try.pinned (OpenSpec.upto channelPlaysSpec)

end Rows
end Go.Proofs.Ytdfjjhpnhaggjaa

/-
  No cell of these rows narrows 'for every input' (looked for: loops, veiled, ifaces, maps, wideKeys, modest, calm, conditions, laid).
  DERIVED. THE GIVEN ROWS OF THIS SEAT. 16 by the template 'for every input the law returns true; each argument reads behind the call as it read before'; 0 by the template 'total and deterministic' (their statements: YtjgegdipellpbaaTotals.lean).
  GIVEN WITH THE SEED: the statements are not yours to turn. If you find one false, say at which input.
  Laid BY PROGRAM, IN A SANDBOX (cutbox-rows.mjs): the forced cells as the released guide's own fill.sh prints them over the translation 137195c0a2999b3a… (all of the seat's roots in one cut). By AI agents, Wed Nov 11 2026. No macro, syntax, notation, axiom, sorry.
-/
import Derived.Test.YtjgegdipellpbaaChecked
import GoSem.Claim
import GoSem.ClaimJoined
import GoSem.ClaimMapViews
import Derived.JoinedTies
import Derived.KernelRfl
namespace Go.Proofs.Ytjgegdipellpbaa
/- THE CELL 'sum', in the pinned program and in every row, IS THE sha256 OF THE DUMP (.gsa) THAT YtjgegdipellpbaaProg.lean LOADS. Nothing in Lean hashes anything: it is a label: what it is worth is what the hold of that sum in a sandbox is worth. -/
noncomputable def Try.pinned : Pinned := { name := "ytjgegdipellpbaa", sum := "137195c0a2999b3af0629fc67623bc3f5ef9fc42ba32bbe13067fc4a6aa453eb", checked := Try.checked }
namespace Rows
def none {H : Type} : Left H := { results := [], args := [] }

/-- 'bastillelaw04.FeBytes': WHATEVER THE INPUT: true; the input reads as it did. -/
def feBytesSpec : ChangeSpec := { name := "feBytes", fn := fun _ => fun
  | [d1, d2, d3] => { results := [.lit (.bool true)], args := [d1, d2, d3] }
  | _ => none }
def feBytesRow : OpenClaim := { program := "ytjgegdipellpbaa", sum := "137195c0a2999b3af0629fc67623bc3f5ef9fc42ba32bbe13067fc4a6aa453eb", func := "bastille/bastillelaw04.FeBytes", spec := "feBytes", plainKeys := false, apart := false }
def FeBytesSaid : Prop := feBytesRow.holds Try.pinned (OpenSpec.ofChange feBytesSpec)

/-- ITS FALSE NEIGHBOUR: 'it returns false'. Refute it at one input. -/
def feBytesWrong : ChangeSpec := { name := "feBytes", fn := fun _ => fun
  | [d1, d2, d3] => { results := [.lit (.bool false)], args := [d1, d2, d3] }
  | _ => none }
def FeBytesWrongFalsely : Prop := feBytesRow.holds Try.pinned (OpenSpec.ofChange feBytesWrong)

/-- 'bastillelaw04.FeSums': WHATEVER THE INPUT: true; the input reads as it did. -/
def feSumsSpec : ChangeSpec := { name := "feSums", fn := fun _ => fun
  | [d1, d2] => { results := [.lit (.bool true)], args := [d1, d2] }
  | _ => none }
def feSumsRow : OpenClaim := { program := "ytjgegdipellpbaa", sum := "137195c0a2999b3af0629fc67623bc3f5ef9fc42ba32bbe13067fc4a6aa453eb", func := "bastille/bastillelaw04.FeSums", spec := "feSums", plainKeys := false, apart := false }
def FeSumsSaid : Prop := feSumsRow.holds Try.pinned (OpenSpec.ofChange feSumsSpec)

/-- ITS FALSE NEIGHBOUR: 'it returns false'. Refute it at one input. -/
def feSumsWrong : ChangeSpec := { name := "feSums", fn := fun _ => fun
  | [d1, d2] => { results := [.lit (.bool false)], args := [d1, d2] }
  | _ => none }
def FeSumsWrongFalsely : Prop := feSumsRow.holds Try.pinned (OpenSpec.ofChange feSumsWrong)

/-- 'bastillelaw04.FePowers': WHATEVER THE INPUT: true; the input reads as it did. -/
def fePowersSpec : ChangeSpec := { name := "fePowers", fn := fun _ => fun
  | [d1, d2] => { results := [.lit (.bool true)], args := [d1, d2] }
  | _ => none }
def fePowersRow : OpenClaim := { program := "ytjgegdipellpbaa", sum := "137195c0a2999b3af0629fc67623bc3f5ef9fc42ba32bbe13067fc4a6aa453eb", func := "bastille/bastillelaw04.FePowers", spec := "fePowers", plainKeys := false, apart := false }
def FePowersSaid : Prop := fePowersRow.holds Try.pinned (OpenSpec.ofChange fePowersSpec)

/-- ITS FALSE NEIGHBOUR: 'it returns false'. Refute it at one input. -/
def fePowersWrong : ChangeSpec := { name := "fePowers", fn := fun _ => fun
  | [d1, d2] => { results := [.lit (.bool false)], args := [d1, d2] }
  | _ => none }
def FePowersWrongFalsely : Prop := fePowersRow.holds Try.pinned (OpenSpec.ofChange fePowersWrong)

/-- 'bastillelaw04.FeLaws': WHATEVER THE INPUT: true; the input reads as it did. -/
def feLawsSpec : ChangeSpec := { name := "feLaws", fn := fun _ => fun
  | [d1, d2, d3] => { results := [.lit (.bool true)], args := [d1, d2, d3] }
  | _ => none }
def feLawsRow : OpenClaim := { program := "ytjgegdipellpbaa", sum := "137195c0a2999b3af0629fc67623bc3f5ef9fc42ba32bbe13067fc4a6aa453eb", func := "bastille/bastillelaw04.FeLaws", spec := "feLaws", plainKeys := false, apart := false }
def FeLawsSaid : Prop := feLawsRow.holds Try.pinned (OpenSpec.ofChange feLawsSpec)

/-- ITS FALSE NEIGHBOUR: 'it returns false'. Refute it at one input. -/
def feLawsWrong : ChangeSpec := { name := "feLaws", fn := fun _ => fun
  | [d1, d2, d3] => { results := [.lit (.bool false)], args := [d1, d2, d3] }
  | _ => none }
def FeLawsWrongFalsely : Prop := feLawsRow.holds Try.pinned (OpenSpec.ofChange feLawsWrong)

/-- 'bastillelaw04.FeRoots': WHATEVER THE INPUT: true; the input reads as it did. -/
def feRootsSpec : ChangeSpec := { name := "feRoots", fn := fun _ => fun
  | [d] => { results := [.lit (.bool true)], args := [d] }
  | _ => none }
def feRootsRow : OpenClaim := { program := "ytjgegdipellpbaa", sum := "137195c0a2999b3af0629fc67623bc3f5ef9fc42ba32bbe13067fc4a6aa453eb", func := "bastille/bastillelaw04.FeRoots", spec := "feRoots", plainKeys := false, apart := false }
def FeRootsSaid : Prop := feRootsRow.holds Try.pinned (OpenSpec.ofChange feRootsSpec)

/-- ITS FALSE NEIGHBOUR: 'it returns false'. Refute it at one input. -/
def feRootsWrong : ChangeSpec := { name := "feRoots", fn := fun _ => fun
  | [d] => { results := [.lit (.bool false)], args := [d] }
  | _ => none }
def FeRootsWrongFalsely : Prop := feRootsRow.holds Try.pinned (OpenSpec.ofChange feRootsWrong)

/-- 'bastillelaw05.LadderMuls': WHATEVER THE INPUT: true; the input reads as it did. -/
def ladderMulsSpec : ChangeSpec := { name := "ladderMuls", fn := fun _ => fun
  | [d1, d2] => { results := [.lit (.bool true)], args := [d1, d2] }
  | _ => none }
def ladderMulsRow : OpenClaim := { program := "ytjgegdipellpbaa", sum := "137195c0a2999b3af0629fc67623bc3f5ef9fc42ba32bbe13067fc4a6aa453eb", func := "bastille/bastillelaw05.LadderMuls", spec := "ladderMuls", plainKeys := false, apart := false }
def LadderMulsSaid : Prop := ladderMulsRow.holds Try.pinned (OpenSpec.ofChange ladderMulsSpec)

/-- ITS FALSE NEIGHBOUR: 'it returns false'. Refute it at one input. -/
def ladderMulsWrong : ChangeSpec := { name := "ladderMuls", fn := fun _ => fun
  | [d1, d2] => { results := [.lit (.bool false)], args := [d1, d2] }
  | _ => none }
def LadderMulsWrongFalsely : Prop := ladderMulsRow.holds Try.pinned (OpenSpec.ofChange ladderMulsWrong)

/-- 'bastillelaw05.LadderMeets': WHATEVER THE INPUT: true; the input reads as it did. -/
def ladderMeetsSpec : ChangeSpec := { name := "ladderMeets", fn := fun _ => fun
  | [d1, d2, d3] => { results := [.lit (.bool true)], args := [d1, d2, d3] }
  | _ => none }
def ladderMeetsRow : OpenClaim := { program := "ytjgegdipellpbaa", sum := "137195c0a2999b3af0629fc67623bc3f5ef9fc42ba32bbe13067fc4a6aa453eb", func := "bastille/bastillelaw05.LadderMeets", spec := "ladderMeets", plainKeys := false, apart := false }
def LadderMeetsSaid : Prop := ladderMeetsRow.holds Try.pinned (OpenSpec.ofChange ladderMeetsSpec)

/-- ITS FALSE NEIGHBOUR: 'it returns false'. Refute it at one input. -/
def ladderMeetsWrong : ChangeSpec := { name := "ladderMeets", fn := fun _ => fun
  | [d1, d2, d3] => { results := [.lit (.bool false)], args := [d1, d2, d3] }
  | _ => none }
def LadderMeetsWrongFalsely : Prop := ladderMeetsRow.holds Try.pinned (OpenSpec.ofChange ladderMeetsWrong)

/-- 'bastillelaw07.PointSums': WHATEVER THE INPUT: true; the input reads as it did. -/
def pointSumsSpec : ChangeSpec := { name := "pointSums", fn := fun _ => fun
  | [d1, d2] => { results := [.lit (.bool true)], args := [d1, d2] }
  | _ => none }
def pointSumsRow : OpenClaim := { program := "ytjgegdipellpbaa", sum := "137195c0a2999b3af0629fc67623bc3f5ef9fc42ba32bbe13067fc4a6aa453eb", func := "bastille/bastillelaw07.PointSums", spec := "pointSums", plainKeys := false, apart := false }
def PointSumsSaid : Prop := pointSumsRow.holds Try.pinned (OpenSpec.ofChange pointSumsSpec)

/-- ITS FALSE NEIGHBOUR: 'it returns false'. Refute it at one input. -/
def pointSumsWrong : ChangeSpec := { name := "pointSums", fn := fun _ => fun
  | [d1, d2] => { results := [.lit (.bool false)], args := [d1, d2] }
  | _ => none }
def PointSumsWrongFalsely : Prop := pointSumsRow.holds Try.pinned (OpenSpec.ofChange pointSumsWrong)

/-- 'bastillelaw07.PointOf': WHATEVER THE INPUT: true; the input reads as it did. -/
def pointOfSpec : ChangeSpec := { name := "pointOf", fn := fun _ => fun
  | [d] => { results := [.lit (.bool true)], args := [d] }
  | _ => none }
def pointOfRow : OpenClaim := { program := "ytjgegdipellpbaa", sum := "137195c0a2999b3af0629fc67623bc3f5ef9fc42ba32bbe13067fc4a6aa453eb", func := "bastille/bastillelaw07.PointOf", spec := "pointOf", plainKeys := false, apart := false }
def PointOfSaid : Prop := pointOfRow.holds Try.pinned (OpenSpec.ofChange pointOfSpec)

/-- ITS FALSE NEIGHBOUR: 'it returns false'. Refute it at one input. -/
def pointOfWrong : ChangeSpec := { name := "pointOf", fn := fun _ => fun
  | [d] => { results := [.lit (.bool false)], args := [d] }
  | _ => none }
def PointOfWrongFalsely : Prop := pointOfRow.holds Try.pinned (OpenSpec.ofChange pointOfWrong)

/-- 'bastillelaw07.PointLaws': WHATEVER THE INPUT: true; the input reads as it did. -/
def pointLawsSpec : ChangeSpec := { name := "pointLaws", fn := fun _ => fun
  | [d1, d2, d3] => { results := [.lit (.bool true)], args := [d1, d2, d3] }
  | _ => none }
def pointLawsRow : OpenClaim := { program := "ytjgegdipellpbaa", sum := "137195c0a2999b3af0629fc67623bc3f5ef9fc42ba32bbe13067fc4a6aa453eb", func := "bastille/bastillelaw07.PointLaws", spec := "pointLaws", plainKeys := false, apart := false }
def PointLawsSaid : Prop := pointLawsRow.holds Try.pinned (OpenSpec.ofChange pointLawsSpec)

/-- ITS FALSE NEIGHBOUR: 'it returns false'. Refute it at one input. -/
def pointLawsWrong : ChangeSpec := { name := "pointLaws", fn := fun _ => fun
  | [d1, d2, d3] => { results := [.lit (.bool false)], args := [d1, d2, d3] }
  | _ => none }
def PointLawsWrongFalsely : Prop := pointLawsRow.holds Try.pinned (OpenSpec.ofChange pointLawsWrong)

/-- 'bastillelaw24.RegressDown': WHATEVER THE INPUT: true; the input reads as it did. -/
def regressDownSpec : ChangeSpec := { name := "regressDown", fn := fun _ => fun
  | [d1, d2] => { results := [.lit (.bool true)], args := [d1, d2] }
  | _ => none }
def regressDownRow : OpenClaim := { program := "ytjgegdipellpbaa", sum := "137195c0a2999b3af0629fc67623bc3f5ef9fc42ba32bbe13067fc4a6aa453eb", func := "bastille/bastillelaw24.RegressDown", spec := "regressDown", unfollowed := true, recurses := true, plainKeys := false, apart := false }
def RegressDownSaid : Prop := regressDownRow.holds Try.pinned (OpenSpec.ofChange regressDownSpec)

/-- ITS FALSE NEIGHBOUR: 'it returns false'. Refute it at one input. -/
def regressDownWrong : ChangeSpec := { name := "regressDown", fn := fun _ => fun
  | [d1, d2] => { results := [.lit (.bool false)], args := [d1, d2] }
  | _ => none }
def RegressDownWrongFalsely : Prop := regressDownRow.holds Try.pinned (OpenSpec.ofChange regressDownWrong)

/-- 'bastillelaw08.SignVerifies': WHATEVER THE INPUT: true; the input reads as it did. -/
def signVerifiesSpec : ChangeSpec := { name := "signVerifies", fn := fun _ => fun
  | [d1, d2, d3] => { results := [.lit (.bool true)], args := [d1, d2, d3] }
  | _ => none }
def signVerifiesRow : OpenClaim := { program := "ytjgegdipellpbaa", sum := "137195c0a2999b3af0629fc67623bc3f5ef9fc42ba32bbe13067fc4a6aa453eb", func := "bastille/bastillelaw08.SignVerifies", spec := "signVerifies", unfollowed := true, recurses := true, plainKeys := false, apart := false }
def SignVerifiesSaid : Prop := signVerifiesRow.holds Try.pinned (OpenSpec.ofChange signVerifiesSpec)

/-- ITS FALSE NEIGHBOUR: 'it returns false'. Refute it at one input. -/
def signVerifiesWrong : ChangeSpec := { name := "signVerifies", fn := fun _ => fun
  | [d1, d2, d3] => { results := [.lit (.bool false)], args := [d1, d2, d3] }
  | _ => none }
def SignVerifiesWrongFalsely : Prop := signVerifiesRow.holds Try.pinned (OpenSpec.ofChange signVerifiesWrong)

/-- 'bastillelaw08.SignBack': WHATEVER THE INPUT: true; the input reads as it did. -/
def signBackSpec : ChangeSpec := { name := "signBack", fn := fun _ => fun
  | [d1, d2, d3] => { results := [.lit (.bool true)], args := [d1, d2, d3] }
  | _ => none }
def signBackRow : OpenClaim := { program := "ytjgegdipellpbaa", sum := "137195c0a2999b3af0629fc67623bc3f5ef9fc42ba32bbe13067fc4a6aa453eb", func := "bastille/bastillelaw08.SignBack", spec := "signBack", unfollowed := true, recurses := true, plainKeys := false, apart := false }
def SignBackSaid : Prop := signBackRow.holds Try.pinned (OpenSpec.ofChange signBackSpec)

/-- ITS FALSE NEIGHBOUR: 'it returns false'. Refute it at one input. -/
def signBackWrong : ChangeSpec := { name := "signBack", fn := fun _ => fun
  | [d1, d2, d3] => { results := [.lit (.bool false)], args := [d1, d2, d3] }
  | _ => none }
def SignBackWrongFalsely : Prop := signBackRow.holds Try.pinned (OpenSpec.ofChange signBackWrong)

/-- 'bastillelaw13.BoxBack': WHATEVER THE INPUT: true; the input reads as it did. -/
def boxBackSpec : ChangeSpec := { name := "boxBack", fn := fun _ => fun
  | [d1, d2, d3] => { results := [.lit (.bool true)], args := [d1, d2, d3] }
  | _ => none }
def boxBackRow : OpenClaim := { program := "ytjgegdipellpbaa", sum := "137195c0a2999b3af0629fc67623bc3f5ef9fc42ba32bbe13067fc4a6aa453eb", func := "bastille/bastillelaw13.BoxBack", spec := "boxBack", unfollowed := true, recurses := true, plainKeys := false, apart := false }
def BoxBackSaid : Prop := boxBackRow.holds Try.pinned (OpenSpec.ofChange boxBackSpec)

/-- ITS FALSE NEIGHBOUR: 'it returns false'. Refute it at one input. -/
def boxBackWrong : ChangeSpec := { name := "boxBack", fn := fun _ => fun
  | [d1, d2, d3] => { results := [.lit (.bool false)], args := [d1, d2, d3] }
  | _ => none }
def BoxBackWrongFalsely : Prop := boxBackRow.holds Try.pinned (OpenSpec.ofChange boxBackWrong)

/-- 'bastillelaw24.RegressApart': WHATEVER THE INPUT: true; the input reads as it did. -/
def regressApartSpec : ChangeSpec := { name := "regressApart", fn := fun _ => fun
  | [d1, d2] => { results := [.lit (.bool true)], args := [d1, d2] }
  | _ => none }
def regressApartRow : OpenClaim := { program := "ytjgegdipellpbaa", sum := "137195c0a2999b3af0629fc67623bc3f5ef9fc42ba32bbe13067fc4a6aa453eb", func := "bastille/bastillelaw24.RegressApart", spec := "regressApart", unfollowed := true, recurses := true, plainKeys := false, apart := false }
def RegressApartSaid : Prop := regressApartRow.holds Try.pinned (OpenSpec.ofChange regressApartSpec)

/-- ITS FALSE NEIGHBOUR: 'it returns false'. Refute it at one input. -/
def regressApartWrong : ChangeSpec := { name := "regressApart", fn := fun _ => fun
  | [d1, d2] => { results := [.lit (.bool false)], args := [d1, d2] }
  | _ => none }
def RegressApartWrongFalsely : Prop := regressApartRow.holds Try.pinned (OpenSpec.ofChange regressApartWrong)

/-- 'bastillelaw24.RegressReach': WHATEVER THE INPUT: true; the input reads as it did. -/
def regressReachSpec : ChangeSpec := { name := "regressReach", fn := fun _ => fun
  | [d1, d2, d3] => { results := [.lit (.bool true)], args := [d1, d2, d3] }
  | _ => none }
def regressReachRow : OpenClaim := { program := "ytjgegdipellpbaa", sum := "137195c0a2999b3af0629fc67623bc3f5ef9fc42ba32bbe13067fc4a6aa453eb", func := "bastille/bastillelaw24.RegressReach", spec := "regressReach", unfollowed := true, recurses := true, plainKeys := false, apart := false }
def RegressReachSaid : Prop := regressReachRow.holds Try.pinned (OpenSpec.ofChange regressReachSpec)

/-- ITS FALSE NEIGHBOUR: 'it returns false'. Refute it at one input. -/
def regressReachWrong : ChangeSpec := { name := "regressReach", fn := fun _ => fun
  | [d1, d2, d3] => { results := [.lit (.bool false)], args := [d1, d2, d3] }
  | _ => none }
def RegressReachWrongFalsely : Prop := regressReachRow.holds Try.pinned (OpenSpec.ofChange regressReachWrong)

/- THE SECOND FORM. 'bulk': how many values and letters a reading holds, each counted each time it is reached (what is shared counts as often as it is met; a slice's spare places count too). A statement '..UptoSaid' is the law's where the arguments, and the package variables that the reading takes, are together of bulk at most 1048576: NARROWER than '..Said'. Prove '..Said' where nothing that the law and all that it calls make is longer than what came in: it says more and counts as full. Else prove '..UptoSaid'. A law counts once. -/
mutual
def uptoBulk {H : Type} : DataW H → Nat
  | .lit (.string bytes) => bytes.length + 1
  | .lit _ => 1
  | .nil => 1
  | .ptr d => uptoBulk d + 1
  | .slice elems spare => uptoBulkAll elems + uptoBulkAll spare + 1
  | .agg parts => uptoBulkAll parts + 1
  | .iface _ d => uptoBulk d + 1
  | .map entries => uptoBulkEntries entries + 1
  | .held _ => 1
def uptoBulkAll {H : Type} : List (DataW H) → Nat
  | [] => 0
  | d :: r => uptoBulk d + uptoBulkAll r
def uptoBulkEntries {H : Type} : List (Lit × DataW H) → Nat
  | [] => 0
  | x :: r => uptoBulkEntry x + uptoBulkEntries r
def uptoBulkEntry {H : Type} : Lit × DataW H → Nat
  | (.string bytes, d) => bytes.length + uptoBulk d + 1
  | (_, d) => uptoBulk d + 1
 end
def uptoSmall : (H : Type) → List (DataW H) → Bool := fun _ ds => decide (uptoBulkAll ds ≤ 1048576)
def OpenSpec.upto (s : _root_.Go.ChangeSpec) : _root_.Go.OpenSpec := { _root_.Go.OpenSpec.ofChange s with cond := some uptoSmall }

/-- 'bastillelaw04.FeBytes', WHERE WHAT IT READS IS OF BULK AT MOST 1048576: true; the input reads as it did. -/
def feBytesUptoRow : OpenClaim := { program := "ytjgegdipellpbaa", sum := "137195c0a2999b3af0629fc67623bc3f5ef9fc42ba32bbe13067fc4a6aa453eb", func := "bastille/bastillelaw04.FeBytes", spec := "feBytes", plainKeys := false, apart := false, narrowed := true }
def FeBytesUptoSaid : Prop := feBytesUptoRow.holds Try.pinned (OpenSpec.upto feBytesSpec)

/-- 'bastillelaw04.FeSums', WHERE WHAT IT READS IS OF BULK AT MOST 1048576: true; the input reads as it did. -/
def feSumsUptoRow : OpenClaim := { program := "ytjgegdipellpbaa", sum := "137195c0a2999b3af0629fc67623bc3f5ef9fc42ba32bbe13067fc4a6aa453eb", func := "bastille/bastillelaw04.FeSums", spec := "feSums", plainKeys := false, apart := false, narrowed := true }
def FeSumsUptoSaid : Prop := feSumsUptoRow.holds Try.pinned (OpenSpec.upto feSumsSpec)

/-- 'bastillelaw04.FePowers', WHERE WHAT IT READS IS OF BULK AT MOST 1048576: true; the input reads as it did. -/
def fePowersUptoRow : OpenClaim := { program := "ytjgegdipellpbaa", sum := "137195c0a2999b3af0629fc67623bc3f5ef9fc42ba32bbe13067fc4a6aa453eb", func := "bastille/bastillelaw04.FePowers", spec := "fePowers", plainKeys := false, apart := false, narrowed := true }
def FePowersUptoSaid : Prop := fePowersUptoRow.holds Try.pinned (OpenSpec.upto fePowersSpec)

/-- 'bastillelaw04.FeLaws', WHERE WHAT IT READS IS OF BULK AT MOST 1048576: true; the input reads as it did. -/
def feLawsUptoRow : OpenClaim := { program := "ytjgegdipellpbaa", sum := "137195c0a2999b3af0629fc67623bc3f5ef9fc42ba32bbe13067fc4a6aa453eb", func := "bastille/bastillelaw04.FeLaws", spec := "feLaws", plainKeys := false, apart := false, narrowed := true }
def FeLawsUptoSaid : Prop := feLawsUptoRow.holds Try.pinned (OpenSpec.upto feLawsSpec)

/-- 'bastillelaw04.FeRoots', WHERE WHAT IT READS IS OF BULK AT MOST 1048576: true; the input reads as it did. -/
def feRootsUptoRow : OpenClaim := { program := "ytjgegdipellpbaa", sum := "137195c0a2999b3af0629fc67623bc3f5ef9fc42ba32bbe13067fc4a6aa453eb", func := "bastille/bastillelaw04.FeRoots", spec := "feRoots", plainKeys := false, apart := false, narrowed := true }
def FeRootsUptoSaid : Prop := feRootsUptoRow.holds Try.pinned (OpenSpec.upto feRootsSpec)

/-- 'bastillelaw05.LadderMuls', WHERE WHAT IT READS IS OF BULK AT MOST 1048576: true; the input reads as it did. -/
def ladderMulsUptoRow : OpenClaim := { program := "ytjgegdipellpbaa", sum := "137195c0a2999b3af0629fc67623bc3f5ef9fc42ba32bbe13067fc4a6aa453eb", func := "bastille/bastillelaw05.LadderMuls", spec := "ladderMuls", plainKeys := false, apart := false, narrowed := true }
def LadderMulsUptoSaid : Prop := ladderMulsUptoRow.holds Try.pinned (OpenSpec.upto ladderMulsSpec)

/-- 'bastillelaw05.LadderMeets', WHERE WHAT IT READS IS OF BULK AT MOST 1048576: true; the input reads as it did. -/
def ladderMeetsUptoRow : OpenClaim := { program := "ytjgegdipellpbaa", sum := "137195c0a2999b3af0629fc67623bc3f5ef9fc42ba32bbe13067fc4a6aa453eb", func := "bastille/bastillelaw05.LadderMeets", spec := "ladderMeets", plainKeys := false, apart := false, narrowed := true }
def LadderMeetsUptoSaid : Prop := ladderMeetsUptoRow.holds Try.pinned (OpenSpec.upto ladderMeetsSpec)

/-- 'bastillelaw07.PointSums', WHERE WHAT IT READS IS OF BULK AT MOST 1048576: true; the input reads as it did. -/
def pointSumsUptoRow : OpenClaim := { program := "ytjgegdipellpbaa", sum := "137195c0a2999b3af0629fc67623bc3f5ef9fc42ba32bbe13067fc4a6aa453eb", func := "bastille/bastillelaw07.PointSums", spec := "pointSums", plainKeys := false, apart := false, narrowed := true }
def PointSumsUptoSaid : Prop := pointSumsUptoRow.holds Try.pinned (OpenSpec.upto pointSumsSpec)

/-- 'bastillelaw07.PointOf', WHERE WHAT IT READS IS OF BULK AT MOST 1048576: true; the input reads as it did. -/
def pointOfUptoRow : OpenClaim := { program := "ytjgegdipellpbaa", sum := "137195c0a2999b3af0629fc67623bc3f5ef9fc42ba32bbe13067fc4a6aa453eb", func := "bastille/bastillelaw07.PointOf", spec := "pointOf", plainKeys := false, apart := false, narrowed := true }
def PointOfUptoSaid : Prop := pointOfUptoRow.holds Try.pinned (OpenSpec.upto pointOfSpec)

/-- 'bastillelaw07.PointLaws', WHERE WHAT IT READS IS OF BULK AT MOST 1048576: true; the input reads as it did. -/
def pointLawsUptoRow : OpenClaim := { program := "ytjgegdipellpbaa", sum := "137195c0a2999b3af0629fc67623bc3f5ef9fc42ba32bbe13067fc4a6aa453eb", func := "bastille/bastillelaw07.PointLaws", spec := "pointLaws", plainKeys := false, apart := false, narrowed := true }
def PointLawsUptoSaid : Prop := pointLawsUptoRow.holds Try.pinned (OpenSpec.upto pointLawsSpec)

/-- 'bastillelaw24.RegressDown', WHERE WHAT IT READS IS OF BULK AT MOST 1048576: true; the input reads as it did. -/
def regressDownUptoRow : OpenClaim := { program := "ytjgegdipellpbaa", sum := "137195c0a2999b3af0629fc67623bc3f5ef9fc42ba32bbe13067fc4a6aa453eb", func := "bastille/bastillelaw24.RegressDown", spec := "regressDown", unfollowed := true, recurses := true, plainKeys := false, apart := false, narrowed := true }
def RegressDownUptoSaid : Prop := regressDownUptoRow.holds Try.pinned (OpenSpec.upto regressDownSpec)

/-- 'bastillelaw08.SignVerifies', WHERE WHAT IT READS IS OF BULK AT MOST 1048576: true; the input reads as it did. -/
def signVerifiesUptoRow : OpenClaim := { program := "ytjgegdipellpbaa", sum := "137195c0a2999b3af0629fc67623bc3f5ef9fc42ba32bbe13067fc4a6aa453eb", func := "bastille/bastillelaw08.SignVerifies", spec := "signVerifies", unfollowed := true, recurses := true, plainKeys := false, apart := false, narrowed := true }
def SignVerifiesUptoSaid : Prop := signVerifiesUptoRow.holds Try.pinned (OpenSpec.upto signVerifiesSpec)

/-- 'bastillelaw08.SignBack', WHERE WHAT IT READS IS OF BULK AT MOST 1048576: true; the input reads as it did. -/
def signBackUptoRow : OpenClaim := { program := "ytjgegdipellpbaa", sum := "137195c0a2999b3af0629fc67623bc3f5ef9fc42ba32bbe13067fc4a6aa453eb", func := "bastille/bastillelaw08.SignBack", spec := "signBack", unfollowed := true, recurses := true, plainKeys := false, apart := false, narrowed := true }
def SignBackUptoSaid : Prop := signBackUptoRow.holds Try.pinned (OpenSpec.upto signBackSpec)

/-- 'bastillelaw13.BoxBack', WHERE WHAT IT READS IS OF BULK AT MOST 1048576: true; the input reads as it did. -/
def boxBackUptoRow : OpenClaim := { program := "ytjgegdipellpbaa", sum := "137195c0a2999b3af0629fc67623bc3f5ef9fc42ba32bbe13067fc4a6aa453eb", func := "bastille/bastillelaw13.BoxBack", spec := "boxBack", unfollowed := true, recurses := true, plainKeys := false, apart := false, narrowed := true }
def BoxBackUptoSaid : Prop := boxBackUptoRow.holds Try.pinned (OpenSpec.upto boxBackSpec)

/-- 'bastillelaw24.RegressApart', WHERE WHAT IT READS IS OF BULK AT MOST 1048576: true; the input reads as it did. -/
def regressApartUptoRow : OpenClaim := { program := "ytjgegdipellpbaa", sum := "137195c0a2999b3af0629fc67623bc3f5ef9fc42ba32bbe13067fc4a6aa453eb", func := "bastille/bastillelaw24.RegressApart", spec := "regressApart", unfollowed := true, recurses := true, plainKeys := false, apart := false, narrowed := true }
def RegressApartUptoSaid : Prop := regressApartUptoRow.holds Try.pinned (OpenSpec.upto regressApartSpec)

/-- 'bastillelaw24.RegressReach', WHERE WHAT IT READS IS OF BULK AT MOST 1048576: true; the input reads as it did. -/
def regressReachUptoRow : OpenClaim := { program := "ytjgegdipellpbaa", sum := "137195c0a2999b3af0629fc67623bc3f5ef9fc42ba32bbe13067fc4a6aa453eb", func := "bastille/bastillelaw24.RegressReach", spec := "regressReach", unfollowed := true, recurses := true, plainKeys := false, apart := false, narrowed := true }
def RegressReachUptoSaid : Prop := regressReachUptoRow.holds Try.pinned (OpenSpec.upto regressReachSpec)

end Rows
end Go.Proofs.Ytjgegdipellpbaa

/-
  NARROWER THAN 'FOR EVERY INPUT', by the rows' own cells (each row's printed sentence says how): SessionDerives: laid · ChainNames: laid · ChainSums: laid · ChainPaths: laid · ChainClaims: laid · ChainHolds: laid · ChainSound: laid · ChainBytes: laid.
  DERIVED. THE GIVEN ROWS OF THIS SEAT. 8 by the template 'for every input the law returns true; each argument reads behind the call as it read before'; 0 by the template 'total and deterministic' (their statements: YtpdhgijeanbmcaaDoorTotals.lean).
  GIVEN WITH THE SEED: the statements are not yours to turn. If you find one false, say at which input.
  Laid BY PROGRAM, IN A SANDBOX (cutbox-rows.mjs): the forced cells as the released guide's own fill.sh prints them over the translation 04b5f0c899d16176… (all of the seat's roots in one cut). By AI agents, Wed Nov 11 2026. No macro, syntax, notation, axiom, sorry.
-/
import Derived.Test.YtpdhgijeanbmcaaDoorChecked
import GoSem.Claim
import GoSem.ClaimJoined
import GoSem.ClaimMapViews
import Derived.JoinedTies
import Derived.KernelRfl
namespace Go.Proofs.YtpdhgijeanbmcaaDoor
/- THE CELL 'sum', in the pinned program and in every row, IS THE sha256 OF THE DUMP (.gsa) THAT YtpdhgijeanbmcaaDoorProg.lean LOADS. Nothing in Lean hashes anything: it is a label: what it is worth is what the hold of that sum in a sandbox is worth. -/
noncomputable def Tryd.pinned : Pinned := { name := "ytpdhgijeanbmcaadoor", sum := "04b5f0c899d16176a6618508c15b515108135f1e350e26f7e4efaa09b8974ee5", checked := Tryd.checked }
namespace Rows
def none {H : Type} : Left H := { results := [], args := [] }

/- WHAT THE LISTED PACKAGE-LEVEL VARIABLES READ AS WHEN THE CALL BEGINS. Each datum BY PROGRAM (the guide's laid-datum.mjs) off the statement by which the dump's own 'gosem.cut.vars' lays the variable. In a bare row this is a premise. The card (YtpdhgijeanbmcaaDoorCards.lean) ties it to the program's text. -/
def laid_wicket_digest_roots {H : Type} : DataW H := .agg [.lit (.int .u32 1116352408), .lit (.int .u32 1899447441), .lit (.int .u32 3049323471), .lit (.int .u32 3921009573), .lit (.int .u32 961987163), .lit (.int .u32 1508970993), .lit (.int .u32 2453635748), .lit (.int .u32 2870763221), .lit (.int .u32 3624381080), .lit (.int .u32 310598401), .lit (.int .u32 607225278), .lit (.int .u32 1426881987), .lit (.int .u32 1925078388), .lit (.int .u32 2162078206), .lit (.int .u32 2614888103), .lit (.int .u32 3248222580), .lit (.int .u32 3835390401), .lit (.int .u32 4022224774), .lit (.int .u32 264347078), .lit (.int .u32 604807628), .lit (.int .u32 770255983), .lit (.int .u32 1249150122), .lit (.int .u32 1555081692), .lit (.int .u32 1996064986), .lit (.int .u32 2554220882), .lit (.int .u32 2821834349), .lit (.int .u32 2952996808), .lit (.int .u32 3210313671), .lit (.int .u32 3336571891), .lit (.int .u32 3584528711), .lit (.int .u32 113926993), .lit (.int .u32 338241895), .lit (.int .u32 666307205), .lit (.int .u32 773529912), .lit (.int .u32 1294757372), .lit (.int .u32 1396182291), .lit (.int .u32 1695183700), .lit (.int .u32 1986661051), .lit (.int .u32 2177026350), .lit (.int .u32 2456956037), .lit (.int .u32 2730485921), .lit (.int .u32 2820302411), .lit (.int .u32 3259730800), .lit (.int .u32 3345764771), .lit (.int .u32 3516065817), .lit (.int .u32 3600352804), .lit (.int .u32 4094571909), .lit (.int .u32 275423344), .lit (.int .u32 430227734), .lit (.int .u32 506948616), .lit (.int .u32 659060556), .lit (.int .u32 883997877), .lit (.int .u32 958139571), .lit (.int .u32 1322822218), .lit (.int .u32 1537002063), .lit (.int .u32 1747873779), .lit (.int .u32 1955562222), .lit (.int .u32 2024104815), .lit (.int .u32 2227730452), .lit (.int .u32 2361852424), .lit (.int .u32 2428436474), .lit (.int .u32 2756734187), .lit (.int .u32 3204031479), .lit (.int .u32 3329325298)]
def laid_wicket_digest_first {H : Type} : DataW H := .agg [.lit (.int .u32 1779033703), .lit (.int .u32 3144134277), .lit (.int .u32 1013904242), .lit (.int .u32 2773480762), .lit (.int .u32 1359893119), .lit (.int .u32 2600822924), .lit (.int .u32 528734635), .lit (.int .u32 1541459225)]
def laid_wicket_wicketref02_roots {H : Type} : DataW H := .agg [.lit (.int .u32 1116352408), .lit (.int .u32 1899447441), .lit (.int .u32 3049323471), .lit (.int .u32 3921009573), .lit (.int .u32 961987163), .lit (.int .u32 1508970993), .lit (.int .u32 2453635748), .lit (.int .u32 2870763221), .lit (.int .u32 3624381080), .lit (.int .u32 310598401), .lit (.int .u32 607225278), .lit (.int .u32 1426881987), .lit (.int .u32 1925078388), .lit (.int .u32 2162078206), .lit (.int .u32 2614888103), .lit (.int .u32 3248222580), .lit (.int .u32 3835390401), .lit (.int .u32 4022224774), .lit (.int .u32 264347078), .lit (.int .u32 604807628), .lit (.int .u32 770255983), .lit (.int .u32 1249150122), .lit (.int .u32 1555081692), .lit (.int .u32 1996064986), .lit (.int .u32 2554220882), .lit (.int .u32 2821834349), .lit (.int .u32 2952996808), .lit (.int .u32 3210313671), .lit (.int .u32 3336571891), .lit (.int .u32 3584528711), .lit (.int .u32 113926993), .lit (.int .u32 338241895), .lit (.int .u32 666307205), .lit (.int .u32 773529912), .lit (.int .u32 1294757372), .lit (.int .u32 1396182291), .lit (.int .u32 1695183700), .lit (.int .u32 1986661051), .lit (.int .u32 2177026350), .lit (.int .u32 2456956037), .lit (.int .u32 2730485921), .lit (.int .u32 2820302411), .lit (.int .u32 3259730800), .lit (.int .u32 3345764771), .lit (.int .u32 3516065817), .lit (.int .u32 3600352804), .lit (.int .u32 4094571909), .lit (.int .u32 275423344), .lit (.int .u32 430227734), .lit (.int .u32 506948616), .lit (.int .u32 659060556), .lit (.int .u32 883997877), .lit (.int .u32 958139571), .lit (.int .u32 1322822218), .lit (.int .u32 1537002063), .lit (.int .u32 1747873779), .lit (.int .u32 1955562222), .lit (.int .u32 2024104815), .lit (.int .u32 2227730452), .lit (.int .u32 2361852424), .lit (.int .u32 2428436474), .lit (.int .u32 2756734187), .lit (.int .u32 3204031479), .lit (.int .u32 3329325298)]

/-- 'wicketlaw23.SessionDerives': WHATEVER THE INPUT: true; the input reads as it did. -/
def sessionDerivesSpec : ChangeSpec := { name := "sessionDerives", fn := fun _ => fun
  | [d1, d2, d3, d4] => { results := [.lit (.bool true)], args := [d1, d2, d3, d4] }
  | _ => none }
def sessionDerivesRow : OpenClaim := { program := "ytpdhgijeanbmcaadoor", sum := "04b5f0c899d16176a6618508c15b515108135f1e350e26f7e4efaa09b8974ee5", func := "wicket/wicketlaw23.SessionDerives", spec := "sessionDerives", named := ["wicket/digest.first", "wicket/digest.roots", "wicket/wicketref02.roots"], apart := false, laid := [("wicket/digest.roots", laid_wicket_digest_roots), ("wicket/digest.first", laid_wicket_digest_first), ("wicket/wicketref02.roots", laid_wicket_wicketref02_roots)] }
def SessionDerivesSaid : Prop := sessionDerivesRow.holds Tryd.pinned (OpenSpec.ofChange sessionDerivesSpec)

/-- ITS FALSE NEIGHBOUR: 'it returns false'. Refute it at one input. -/
def sessionDerivesWrong : ChangeSpec := { name := "sessionDerives", fn := fun _ => fun
  | [d1, d2, d3, d4] => { results := [.lit (.bool false)], args := [d1, d2, d3, d4] }
  | _ => none }
def SessionDerivesWrongFalsely : Prop := sessionDerivesRow.holds Tryd.pinned (OpenSpec.ofChange sessionDerivesWrong)

/-- 'wicketlaw25.ChainNames': WHATEVER THE INPUT: true; the input reads as it did. -/
def chainNamesSpec : ChangeSpec := { name := "chainNames", fn := fun _ => fun
  | [] => { results := [.lit (.bool true)], args := [] }
  | _ => none }
def chainNamesRow : OpenClaim := { program := "ytpdhgijeanbmcaadoor", sum := "04b5f0c899d16176a6618508c15b515108135f1e350e26f7e4efaa09b8974ee5", func := "wicket/wicketlaw25.ChainNames", spec := "chainNames", unfollowed := true, recurses := true, named := ["wicket/wicketref02.roots", "wicket/digest.first", "wicket/digest.roots"], apart := false, laid := [("wicket/digest.roots", laid_wicket_digest_roots), ("wicket/digest.first", laid_wicket_digest_first), ("wicket/wicketref02.roots", laid_wicket_wicketref02_roots)] }
def ChainNamesSaid : Prop := chainNamesRow.holds Tryd.pinned (OpenSpec.ofChange chainNamesSpec)

/-- ITS FALSE NEIGHBOUR: 'it returns false'. Refute it at one input. -/
def chainNamesWrong : ChangeSpec := { name := "chainNames", fn := fun _ => fun
  | [] => { results := [.lit (.bool false)], args := [] }
  | _ => none }
def ChainNamesWrongFalsely : Prop := chainNamesRow.holds Tryd.pinned (OpenSpec.ofChange chainNamesWrong)

/-- 'wicketlaw25.ChainSums': WHATEVER THE INPUT: true; the input reads as it did. -/
def chainSumsSpec : ChangeSpec := { name := "chainSums", fn := fun _ => fun
  | [d1, d2, d3] => { results := [.lit (.bool true)], args := [d1, d2, d3] }
  | _ => none }
def chainSumsRow : OpenClaim := { program := "ytpdhgijeanbmcaadoor", sum := "04b5f0c899d16176a6618508c15b515108135f1e350e26f7e4efaa09b8974ee5", func := "wicket/wicketlaw25.ChainSums", spec := "chainSums", unfollowed := true, recurses := true, named := ["wicket/wicketref02.roots", "wicket/digest.first", "wicket/digest.roots"], apart := false, laid := [("wicket/digest.roots", laid_wicket_digest_roots), ("wicket/digest.first", laid_wicket_digest_first), ("wicket/wicketref02.roots", laid_wicket_wicketref02_roots)] }
def ChainSumsSaid : Prop := chainSumsRow.holds Tryd.pinned (OpenSpec.ofChange chainSumsSpec)

/-- ITS FALSE NEIGHBOUR: 'it returns false'. Refute it at one input. -/
def chainSumsWrong : ChangeSpec := { name := "chainSums", fn := fun _ => fun
  | [d1, d2, d3] => { results := [.lit (.bool false)], args := [d1, d2, d3] }
  | _ => none }
def ChainSumsWrongFalsely : Prop := chainSumsRow.holds Tryd.pinned (OpenSpec.ofChange chainSumsWrong)

/-- 'wicketlaw25.ChainPaths': WHATEVER THE INPUT: true; the input reads as it did. -/
def chainPathsSpec : ChangeSpec := { name := "chainPaths", fn := fun _ => fun
  | [d1, d2] => { results := [.lit (.bool true)], args := [d1, d2] }
  | _ => none }
def chainPathsRow : OpenClaim := { program := "ytpdhgijeanbmcaadoor", sum := "04b5f0c899d16176a6618508c15b515108135f1e350e26f7e4efaa09b8974ee5", func := "wicket/wicketlaw25.ChainPaths", spec := "chainPaths", unfollowed := true, recurses := true, named := ["wicket/wicketref02.roots", "wicket/digest.first", "wicket/digest.roots"], apart := false, laid := [("wicket/digest.roots", laid_wicket_digest_roots), ("wicket/digest.first", laid_wicket_digest_first), ("wicket/wicketref02.roots", laid_wicket_wicketref02_roots)] }
def ChainPathsSaid : Prop := chainPathsRow.holds Tryd.pinned (OpenSpec.ofChange chainPathsSpec)

/-- ITS FALSE NEIGHBOUR: 'it returns false'. Refute it at one input. -/
def chainPathsWrong : ChangeSpec := { name := "chainPaths", fn := fun _ => fun
  | [d1, d2] => { results := [.lit (.bool false)], args := [d1, d2] }
  | _ => none }
def ChainPathsWrongFalsely : Prop := chainPathsRow.holds Tryd.pinned (OpenSpec.ofChange chainPathsWrong)

/-- 'wicketlaw25.ChainClaims': WHATEVER THE INPUT: true; the input reads as it did. -/
def chainClaimsSpec : ChangeSpec := { name := "chainClaims", fn := fun _ => fun
  | [d] => { results := [.lit (.bool true)], args := [d] }
  | _ => none }
def chainClaimsRow : OpenClaim := { program := "ytpdhgijeanbmcaadoor", sum := "04b5f0c899d16176a6618508c15b515108135f1e350e26f7e4efaa09b8974ee5", func := "wicket/wicketlaw25.ChainClaims", spec := "chainClaims", unfollowed := true, recurses := true, named := ["wicket/digest.first", "wicket/digest.roots", "wicket/wicketref02.roots"], apart := false, laid := [("wicket/digest.roots", laid_wicket_digest_roots), ("wicket/digest.first", laid_wicket_digest_first), ("wicket/wicketref02.roots", laid_wicket_wicketref02_roots)] }
def ChainClaimsSaid : Prop := chainClaimsRow.holds Tryd.pinned (OpenSpec.ofChange chainClaimsSpec)

/-- ITS FALSE NEIGHBOUR: 'it returns false'. Refute it at one input. -/
def chainClaimsWrong : ChangeSpec := { name := "chainClaims", fn := fun _ => fun
  | [d] => { results := [.lit (.bool false)], args := [d] }
  | _ => none }
def ChainClaimsWrongFalsely : Prop := chainClaimsRow.holds Tryd.pinned (OpenSpec.ofChange chainClaimsWrong)

/-- 'wicketlaw25.ChainHolds': WHATEVER THE INPUT: true; the input reads as it did. -/
def chainHoldsSpec : ChangeSpec := { name := "chainHolds", fn := fun _ => fun
  | [d1, d2] => { results := [.lit (.bool true)], args := [d1, d2] }
  | _ => none }
def chainHoldsRow : OpenClaim := { program := "ytpdhgijeanbmcaadoor", sum := "04b5f0c899d16176a6618508c15b515108135f1e350e26f7e4efaa09b8974ee5", func := "wicket/wicketlaw25.ChainHolds", spec := "chainHolds", unfollowed := true, recurses := true, named := ["wicket/wicketref02.roots", "wicket/digest.first", "wicket/digest.roots"], apart := false, laid := [("wicket/digest.roots", laid_wicket_digest_roots), ("wicket/digest.first", laid_wicket_digest_first), ("wicket/wicketref02.roots", laid_wicket_wicketref02_roots)] }
def ChainHoldsSaid : Prop := chainHoldsRow.holds Tryd.pinned (OpenSpec.ofChange chainHoldsSpec)

/-- ITS FALSE NEIGHBOUR: 'it returns false'. Refute it at one input. -/
def chainHoldsWrong : ChangeSpec := { name := "chainHolds", fn := fun _ => fun
  | [d1, d2] => { results := [.lit (.bool false)], args := [d1, d2] }
  | _ => none }
def ChainHoldsWrongFalsely : Prop := chainHoldsRow.holds Tryd.pinned (OpenSpec.ofChange chainHoldsWrong)

/-- 'wicketlaw25.ChainSound': WHATEVER THE INPUT: true; the input reads as it did. -/
def chainSoundSpec : ChangeSpec := { name := "chainSound", fn := fun _ => fun
  | [d1, d2, d3, d4] => { results := [.lit (.bool true)], args := [d1, d2, d3, d4] }
  | _ => none }
def chainSoundRow : OpenClaim := { program := "ytpdhgijeanbmcaadoor", sum := "04b5f0c899d16176a6618508c15b515108135f1e350e26f7e4efaa09b8974ee5", func := "wicket/wicketlaw25.ChainSound", spec := "chainSound", unfollowed := true, recurses := true, named := ["wicket/wicketref02.roots", "wicket/digest.first", "wicket/digest.roots"], apart := false, laid := [("wicket/digest.roots", laid_wicket_digest_roots), ("wicket/digest.first", laid_wicket_digest_first), ("wicket/wicketref02.roots", laid_wicket_wicketref02_roots)] }
def ChainSoundSaid : Prop := chainSoundRow.holds Tryd.pinned (OpenSpec.ofChange chainSoundSpec)

/-- ITS FALSE NEIGHBOUR: 'it returns false'. Refute it at one input. -/
def chainSoundWrong : ChangeSpec := { name := "chainSound", fn := fun _ => fun
  | [d1, d2, d3, d4] => { results := [.lit (.bool false)], args := [d1, d2, d3, d4] }
  | _ => none }
def ChainSoundWrongFalsely : Prop := chainSoundRow.holds Tryd.pinned (OpenSpec.ofChange chainSoundWrong)

/-- 'wicketlaw25.ChainBytes': WHATEVER THE INPUT: true; the input reads as it did. -/
def chainBytesSpec : ChangeSpec := { name := "chainBytes", fn := fun _ => fun
  | [d] => { results := [.lit (.bool true)], args := [d] }
  | _ => none }
def chainBytesRow : OpenClaim := { program := "ytpdhgijeanbmcaadoor", sum := "04b5f0c899d16176a6618508c15b515108135f1e350e26f7e4efaa09b8974ee5", func := "wicket/wicketlaw25.ChainBytes", spec := "chainBytes", unfollowed := true, recurses := true, named := ["wicket/wicketref02.roots", "wicket/digest.first", "wicket/digest.roots"], apart := false, laid := [("wicket/digest.roots", laid_wicket_digest_roots), ("wicket/digest.first", laid_wicket_digest_first), ("wicket/wicketref02.roots", laid_wicket_wicketref02_roots)] }
def ChainBytesSaid : Prop := chainBytesRow.holds Tryd.pinned (OpenSpec.ofChange chainBytesSpec)

/-- ITS FALSE NEIGHBOUR: 'it returns false'. Refute it at one input. -/
def chainBytesWrong : ChangeSpec := { name := "chainBytes", fn := fun _ => fun
  | [d] => { results := [.lit (.bool false)], args := [d] }
  | _ => none }
def ChainBytesWrongFalsely : Prop := chainBytesRow.holds Tryd.pinned (OpenSpec.ofChange chainBytesWrong)

/- THE SECOND FORM. 'bulk': how many values and letters a reading holds, each counted each time it is reached (what is shared counts as often as it is met; a slice's spare places count too). A statement '..UptoSaid' is the law's where the arguments, and the package variables that the reading takes, are together of bulk at most 1048576: NARROWER than '..Said'. Prove '..Said' where nothing that the law and all that it calls make is longer than what came in: it says more and counts as full. Else prove '..UptoSaid'. A law counts once. -/
mutual
def uptoBulk {H : Type} : DataW H → Nat
  | .lit (.string bytes) => bytes.length + 1
  | .lit _ => 1
  | .nil => 1
  | .ptr d => uptoBulk d + 1
  | .slice elems spare => uptoBulkAll elems + uptoBulkAll spare + 1
  | .agg parts => uptoBulkAll parts + 1
  | .iface _ d => uptoBulk d + 1
  | .map entries => uptoBulkEntries entries + 1
  | .held _ => 1
def uptoBulkAll {H : Type} : List (DataW H) → Nat
  | [] => 0
  | d :: r => uptoBulk d + uptoBulkAll r
def uptoBulkEntries {H : Type} : List (Lit × DataW H) → Nat
  | [] => 0
  | x :: r => uptoBulkEntry x + uptoBulkEntries r
def uptoBulkEntry {H : Type} : Lit × DataW H → Nat
  | (.string bytes, d) => bytes.length + uptoBulk d + 1
  | (_, d) => uptoBulk d + 1
 end
def uptoSmall : (H : Type) → List (DataW H) → Bool := fun _ ds => decide (uptoBulkAll ds ≤ 1048576)
def OpenSpec.upto (s : _root_.Go.ChangeSpec) : _root_.Go.OpenSpec := { _root_.Go.OpenSpec.ofChange s with cond := some uptoSmall }

/-- 'wicketlaw23.SessionDerives', WHERE WHAT IT READS IS OF BULK AT MOST 1048576: true; the input reads as it did. -/
def sessionDerivesUptoRow : OpenClaim := { program := "ytpdhgijeanbmcaadoor", sum := "04b5f0c899d16176a6618508c15b515108135f1e350e26f7e4efaa09b8974ee5", func := "wicket/wicketlaw23.SessionDerives", spec := "sessionDerives", named := ["wicket/digest.first", "wicket/digest.roots", "wicket/wicketref02.roots"], apart := false, laid := [("wicket/digest.roots", laid_wicket_digest_roots), ("wicket/digest.first", laid_wicket_digest_first), ("wicket/wicketref02.roots", laid_wicket_wicketref02_roots)], narrowed := true }
def SessionDerivesUptoSaid : Prop := sessionDerivesUptoRow.holds Tryd.pinned (OpenSpec.upto sessionDerivesSpec)

/-- 'wicketlaw25.ChainNames', WHERE WHAT IT READS IS OF BULK AT MOST 1048576: true; the input reads as it did. -/
def chainNamesUptoRow : OpenClaim := { program := "ytpdhgijeanbmcaadoor", sum := "04b5f0c899d16176a6618508c15b515108135f1e350e26f7e4efaa09b8974ee5", func := "wicket/wicketlaw25.ChainNames", spec := "chainNames", unfollowed := true, recurses := true, named := ["wicket/wicketref02.roots", "wicket/digest.first", "wicket/digest.roots"], apart := false, laid := [("wicket/digest.roots", laid_wicket_digest_roots), ("wicket/digest.first", laid_wicket_digest_first), ("wicket/wicketref02.roots", laid_wicket_wicketref02_roots)], narrowed := true }
def ChainNamesUptoSaid : Prop := chainNamesUptoRow.holds Tryd.pinned (OpenSpec.upto chainNamesSpec)

/-- 'wicketlaw25.ChainSums', WHERE WHAT IT READS IS OF BULK AT MOST 1048576: true; the input reads as it did. -/
def chainSumsUptoRow : OpenClaim := { program := "ytpdhgijeanbmcaadoor", sum := "04b5f0c899d16176a6618508c15b515108135f1e350e26f7e4efaa09b8974ee5", func := "wicket/wicketlaw25.ChainSums", spec := "chainSums", unfollowed := true, recurses := true, named := ["wicket/wicketref02.roots", "wicket/digest.first", "wicket/digest.roots"], apart := false, laid := [("wicket/digest.roots", laid_wicket_digest_roots), ("wicket/digest.first", laid_wicket_digest_first), ("wicket/wicketref02.roots", laid_wicket_wicketref02_roots)], narrowed := true }
def ChainSumsUptoSaid : Prop := chainSumsUptoRow.holds Tryd.pinned (OpenSpec.upto chainSumsSpec)

/-- 'wicketlaw25.ChainPaths', WHERE WHAT IT READS IS OF BULK AT MOST 1048576: true; the input reads as it did. -/
def chainPathsUptoRow : OpenClaim := { program := "ytpdhgijeanbmcaadoor", sum := "04b5f0c899d16176a6618508c15b515108135f1e350e26f7e4efaa09b8974ee5", func := "wicket/wicketlaw25.ChainPaths", spec := "chainPaths", unfollowed := true, recurses := true, named := ["wicket/wicketref02.roots", "wicket/digest.first", "wicket/digest.roots"], apart := false, laid := [("wicket/digest.roots", laid_wicket_digest_roots), ("wicket/digest.first", laid_wicket_digest_first), ("wicket/wicketref02.roots", laid_wicket_wicketref02_roots)], narrowed := true }
def ChainPathsUptoSaid : Prop := chainPathsUptoRow.holds Tryd.pinned (OpenSpec.upto chainPathsSpec)

/-- 'wicketlaw25.ChainClaims', WHERE WHAT IT READS IS OF BULK AT MOST 1048576: true; the input reads as it did. -/
def chainClaimsUptoRow : OpenClaim := { program := "ytpdhgijeanbmcaadoor", sum := "04b5f0c899d16176a6618508c15b515108135f1e350e26f7e4efaa09b8974ee5", func := "wicket/wicketlaw25.ChainClaims", spec := "chainClaims", unfollowed := true, recurses := true, named := ["wicket/digest.first", "wicket/digest.roots", "wicket/wicketref02.roots"], apart := false, laid := [("wicket/digest.roots", laid_wicket_digest_roots), ("wicket/digest.first", laid_wicket_digest_first), ("wicket/wicketref02.roots", laid_wicket_wicketref02_roots)], narrowed := true }
def ChainClaimsUptoSaid : Prop := chainClaimsUptoRow.holds Tryd.pinned (OpenSpec.upto chainClaimsSpec)

/-- 'wicketlaw25.ChainHolds', WHERE WHAT IT READS IS OF BULK AT MOST 1048576: true; the input reads as it did. -/
def chainHoldsUptoRow : OpenClaim := { program := "ytpdhgijeanbmcaadoor", sum := "04b5f0c899d16176a6618508c15b515108135f1e350e26f7e4efaa09b8974ee5", func := "wicket/wicketlaw25.ChainHolds", spec := "chainHolds", unfollowed := true, recurses := true, named := ["wicket/wicketref02.roots", "wicket/digest.first", "wicket/digest.roots"], apart := false, laid := [("wicket/digest.roots", laid_wicket_digest_roots), ("wicket/digest.first", laid_wicket_digest_first), ("wicket/wicketref02.roots", laid_wicket_wicketref02_roots)], narrowed := true }
def ChainHoldsUptoSaid : Prop := chainHoldsUptoRow.holds Tryd.pinned (OpenSpec.upto chainHoldsSpec)

/-- 'wicketlaw25.ChainSound', WHERE WHAT IT READS IS OF BULK AT MOST 1048576: true; the input reads as it did. -/
def chainSoundUptoRow : OpenClaim := { program := "ytpdhgijeanbmcaadoor", sum := "04b5f0c899d16176a6618508c15b515108135f1e350e26f7e4efaa09b8974ee5", func := "wicket/wicketlaw25.ChainSound", spec := "chainSound", unfollowed := true, recurses := true, named := ["wicket/wicketref02.roots", "wicket/digest.first", "wicket/digest.roots"], apart := false, laid := [("wicket/digest.roots", laid_wicket_digest_roots), ("wicket/digest.first", laid_wicket_digest_first), ("wicket/wicketref02.roots", laid_wicket_wicketref02_roots)], narrowed := true }
def ChainSoundUptoSaid : Prop := chainSoundUptoRow.holds Tryd.pinned (OpenSpec.upto chainSoundSpec)

/-- 'wicketlaw25.ChainBytes', WHERE WHAT IT READS IS OF BULK AT MOST 1048576: true; the input reads as it did. -/
def chainBytesUptoRow : OpenClaim := { program := "ytpdhgijeanbmcaadoor", sum := "04b5f0c899d16176a6618508c15b515108135f1e350e26f7e4efaa09b8974ee5", func := "wicket/wicketlaw25.ChainBytes", spec := "chainBytes", unfollowed := true, recurses := true, named := ["wicket/wicketref02.roots", "wicket/digest.first", "wicket/digest.roots"], apart := false, laid := [("wicket/digest.roots", laid_wicket_digest_roots), ("wicket/digest.first", laid_wicket_digest_first), ("wicket/wicketref02.roots", laid_wicket_wicketref02_roots)], narrowed := true }
def ChainBytesUptoSaid : Prop := chainBytesUptoRow.holds Tryd.pinned (OpenSpec.upto chainBytesSpec)

end Rows
end Go.Proofs.YtpdhgijeanbmcaaDoor

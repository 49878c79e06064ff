/-
  NARROWER THAN 'FOR EVERY INPUT', by the rows' own cells (each row's printed sentence says how): ValidSpoils: laid · ValidAll: laid · ValidFirst: laid.
  DERIVED. THE GIVEN ROWS OF THIS SEAT. 3 by the template 'for every input the law returns true; each argument reads behind the call as it read before'; 0 by the template 'total and deterministic' (their statements: YtbjlecpmgocoeaaGreatDoorTotals.lean).
  GIVEN WITH THE SEED: the statements are not yours to turn. If you find one false, say at which input.
  Laid BY PROGRAM, IN A SANDBOX (cutbox-rows.mjs): the forced cells as the released guide's own fill.sh prints them over the translation 5924f4f00edf4f63… (all of the seat's roots in one cut). By AI agents, Wed Nov 11 2026. No macro, syntax, notation, axiom, sorry.
-/
import Derived.Test.YtbjlecpmgocoeaaGreatDoorChecked
import GoSem.Claim
import GoSem.ClaimJoined
import GoSem.ClaimMapViews
import Derived.JoinedTies
import Derived.KernelRfl
namespace Go.Proofs.YtbjlecpmgocoeaaGreatDoor
/- THE CELL 'sum', in the pinned program and in every row, IS THE sha256 OF THE DUMP (.gsa) THAT YtbjlecpmgocoeaaGreatDoorProg.lean LOADS. Nothing in Lean hashes anything: it is a label: what it is worth is what the hold of that sum in a sandbox is worth. -/
noncomputable def Tryz.pinned : Pinned := { name := "ytbjlecpmgocoeaagreatdoor", sum := "5924f4f00edf4f63aa8fd34378e8ae5f8c3b20a4436b03d7ef15c13f748045ea", checked := Tryz.checked }
namespace Rows
def none {H : Type} : Left H := { results := [], args := [] }

/- WHAT THE LISTED PACKAGE-LEVEL VARIABLES READ AS WHEN THE CALL BEGINS. Each datum BY PROGRAM (the guide's laid-datum.mjs) off the statement by which the dump's own 'gosem.cut.vars' lays the variable. In a bare row this is a premise. The card (YtbjlecpmgocoeaaGreatDoorCards.lean) ties it to the program's text. -/
def laid_warden_sha_rounds {H : Type} : DataW H := .agg [.lit (.int .u32 1116352408), .lit (.int .u32 1899447441), .lit (.int .u32 3049323471), .lit (.int .u32 3921009573), .lit (.int .u32 961987163), .lit (.int .u32 1508970993), .lit (.int .u32 2453635748), .lit (.int .u32 2870763221), .lit (.int .u32 3624381080), .lit (.int .u32 310598401), .lit (.int .u32 607225278), .lit (.int .u32 1426881987), .lit (.int .u32 1925078388), .lit (.int .u32 2162078206), .lit (.int .u32 2614888103), .lit (.int .u32 3248222580), .lit (.int .u32 3835390401), .lit (.int .u32 4022224774), .lit (.int .u32 264347078), .lit (.int .u32 604807628), .lit (.int .u32 770255983), .lit (.int .u32 1249150122), .lit (.int .u32 1555081692), .lit (.int .u32 1996064986), .lit (.int .u32 2554220882), .lit (.int .u32 2821834349), .lit (.int .u32 2952996808), .lit (.int .u32 3210313671), .lit (.int .u32 3336571891), .lit (.int .u32 3584528711), .lit (.int .u32 113926993), .lit (.int .u32 338241895), .lit (.int .u32 666307205), .lit (.int .u32 773529912), .lit (.int .u32 1294757372), .lit (.int .u32 1396182291), .lit (.int .u32 1695183700), .lit (.int .u32 1986661051), .lit (.int .u32 2177026350), .lit (.int .u32 2456956037), .lit (.int .u32 2730485921), .lit (.int .u32 2820302411), .lit (.int .u32 3259730800), .lit (.int .u32 3345764771), .lit (.int .u32 3516065817), .lit (.int .u32 3600352804), .lit (.int .u32 4094571909), .lit (.int .u32 275423344), .lit (.int .u32 430227734), .lit (.int .u32 506948616), .lit (.int .u32 659060556), .lit (.int .u32 883997877), .lit (.int .u32 958139571), .lit (.int .u32 1322822218), .lit (.int .u32 1537002063), .lit (.int .u32 1747873779), .lit (.int .u32 1955562222), .lit (.int .u32 2024104815), .lit (.int .u32 2227730452), .lit (.int .u32 2361852424), .lit (.int .u32 2428436474), .lit (.int .u32 2756734187), .lit (.int .u32 3204031479), .lit (.int .u32 3329325298)]
def laid_warden_wardenref02_K {H : Type} : DataW H := .agg [.lit (.int .u32 1116352408), .lit (.int .u32 1899447441), .lit (.int .u32 3049323471), .lit (.int .u32 3921009573), .lit (.int .u32 961987163), .lit (.int .u32 1508970993), .lit (.int .u32 2453635748), .lit (.int .u32 2870763221), .lit (.int .u32 3624381080), .lit (.int .u32 310598401), .lit (.int .u32 607225278), .lit (.int .u32 1426881987), .lit (.int .u32 1925078388), .lit (.int .u32 2162078206), .lit (.int .u32 2614888103), .lit (.int .u32 3248222580), .lit (.int .u32 3835390401), .lit (.int .u32 4022224774), .lit (.int .u32 264347078), .lit (.int .u32 604807628), .lit (.int .u32 770255983), .lit (.int .u32 1249150122), .lit (.int .u32 1555081692), .lit (.int .u32 1996064986), .lit (.int .u32 2554220882), .lit (.int .u32 2821834349), .lit (.int .u32 2952996808), .lit (.int .u32 3210313671), .lit (.int .u32 3336571891), .lit (.int .u32 3584528711), .lit (.int .u32 113926993), .lit (.int .u32 338241895), .lit (.int .u32 666307205), .lit (.int .u32 773529912), .lit (.int .u32 1294757372), .lit (.int .u32 1396182291), .lit (.int .u32 1695183700), .lit (.int .u32 1986661051), .lit (.int .u32 2177026350), .lit (.int .u32 2456956037), .lit (.int .u32 2730485921), .lit (.int .u32 2820302411), .lit (.int .u32 3259730800), .lit (.int .u32 3345764771), .lit (.int .u32 3516065817), .lit (.int .u32 3600352804), .lit (.int .u32 4094571909), .lit (.int .u32 275423344), .lit (.int .u32 430227734), .lit (.int .u32 506948616), .lit (.int .u32 659060556), .lit (.int .u32 883997877), .lit (.int .u32 958139571), .lit (.int .u32 1322822218), .lit (.int .u32 1537002063), .lit (.int .u32 1747873779), .lit (.int .u32 1955562222), .lit (.int .u32 2024104815), .lit (.int .u32 2227730452), .lit (.int .u32 2361852424), .lit (.int .u32 2428436474), .lit (.int .u32 2756734187), .lit (.int .u32 3204031479), .lit (.int .u32 3329325298)]
def laid_warden_valid_says {H : Type} : DataW H := .agg [.lit (.string [97, 32, 115, 112, 97, 99, 101, 32, 111, 119, 110, 115, 32, 105, 116, 115, 101, 108, 102]), .lit (.string [97, 32, 102, 114, 101, 101, 32, 112, 97, 103, 101, 32, 105, 115, 32, 122, 101, 114, 111]), .lit (.string [97, 110, 32, 111, 119, 110, 101, 114, 32, 105, 115, 32, 97, 32, 115, 112, 97, 99, 101]), .lit (.string [97, 32, 115, 112, 97, 99, 101, 32, 99, 111, 117, 110, 116, 115, 32, 105, 116, 115, 32, 112, 97, 103, 101, 115]), .lit (.string [98, 105, 114, 116, 104, 115, 32, 97, 114, 101, 32, 117, 110, 108, 105, 107, 101]), .lit (.string [97, 32, 115, 112, 97, 99, 101, 39, 115, 32, 119, 111, 114, 100, 115, 32, 97, 114, 101, 32, 105, 116, 115, 32, 115, 116, 97, 116, 101, 39, 115]), .lit (.string [97, 32, 115, 112, 97, 99, 101, 32, 104, 97, 115, 32, 111, 110, 101, 32, 102, 105, 114, 115, 116, 32, 116, 97, 98, 108, 101]), .lit (.string [97, 32, 102, 105, 114, 115, 116, 32, 116, 97, 98, 108, 101, 32, 110, 97, 109, 101, 115, 32, 116, 104, 101, 32, 115, 101, 99, 111, 110, 100, 32, 111, 110, 101, 115]), .lit (.string [97, 32, 115, 101, 99, 111, 110, 100, 32, 116, 97, 98, 108, 101, 32, 109, 97, 112, 115, 32, 119, 104, 97, 116, 32, 105, 116, 32, 109, 97, 121]), .lit (.string [97, 32, 100, 97, 116, 97, 32, 112, 97, 103, 101, 32, 105, 115, 32, 109, 97, 112, 112, 101, 100, 32, 111, 110, 99, 101]), .lit (.string [97, 32, 116, 104, 114, 101, 97, 100, 32, 105, 115, 32, 119, 104, 111, 108, 101]), .lit (.string [97, 32, 115, 112, 97, 114, 101, 32, 112, 97, 103, 101, 32, 105, 115, 32, 122, 101, 114, 111])]

/-- 'wardenlaw13.ValidSpoils': WHATEVER THE INPUT: true; the input reads as it did. -/
def validSpoilsSpec : ChangeSpec := { name := "validSpoils", fn := fun _ => fun
  | [d1, d2, d3] => { results := [.lit (.bool true)], args := [d1, d2, d3] }
  | _ => none }
def validSpoilsRow : OpenClaim := { program := "ytbjlecpmgocoeaagreatdoor", sum := "5924f4f00edf4f63aa8fd34378e8ae5f8c3b20a4436b03d7ef15c13f748045ea", func := "warden/wardenlaw13.ValidSpoils", spec := "validSpoils", unfollowed := true, recurses := true, named := ["warden/sha.rounds", "warden/wardenref02.K"], apart := false, laid := [("warden/sha.rounds", laid_warden_sha_rounds), ("warden/wardenref02.K", laid_warden_wardenref02_K)] }
def ValidSpoilsSaid : Prop := validSpoilsRow.holds Tryz.pinned (OpenSpec.ofChange validSpoilsSpec)

/-- ITS FALSE NEIGHBOUR: 'it returns false'. Refute it at one input. -/
def validSpoilsWrong : ChangeSpec := { name := "validSpoils", fn := fun _ => fun
  | [d1, d2, d3] => { results := [.lit (.bool false)], args := [d1, d2, d3] }
  | _ => none }
def ValidSpoilsWrongFalsely : Prop := validSpoilsRow.holds Tryz.pinned (OpenSpec.ofChange validSpoilsWrong)

/-- 'wardenlaw13.ValidAll': WHATEVER THE INPUT: true; the input reads as it did. -/
def validAllSpec : ChangeSpec := { name := "validAll", fn := fun _ => fun
  | [d1, d2, d3, d4] => { results := [.lit (.bool true)], args := [d1, d2, d3, d4] }
  | _ => none }
def validAllRow : OpenClaim := { program := "ytbjlecpmgocoeaagreatdoor", sum := "5924f4f00edf4f63aa8fd34378e8ae5f8c3b20a4436b03d7ef15c13f748045ea", func := "warden/wardenlaw13.ValidAll", spec := "validAll", unfollowed := true, recurses := true, named := ["warden/sha.rounds", "warden/wardenref02.K", "warden/valid.says"], apart := false, laid := [("warden/sha.rounds", laid_warden_sha_rounds), ("warden/wardenref02.K", laid_warden_wardenref02_K), ("warden/valid.says", laid_warden_valid_says)] }
def ValidAllSaid : Prop := validAllRow.holds Tryz.pinned (OpenSpec.ofChange validAllSpec)

/-- ITS FALSE NEIGHBOUR: 'it returns false'. Refute it at one input. -/
def validAllWrong : ChangeSpec := { name := "validAll", fn := fun _ => fun
  | [d1, d2, d3, d4] => { results := [.lit (.bool false)], args := [d1, d2, d3, d4] }
  | _ => none }
def ValidAllWrongFalsely : Prop := validAllRow.holds Tryz.pinned (OpenSpec.ofChange validAllWrong)

/-- 'wardenlaw13.ValidFirst': WHATEVER THE INPUT: true; the input reads as it did. -/
def validFirstSpec : ChangeSpec := { name := "validFirst", fn := fun _ => fun
  | [d1, d2, d3] => { results := [.lit (.bool true)], args := [d1, d2, d3] }
  | _ => none }
def validFirstRow : OpenClaim := { program := "ytbjlecpmgocoeaagreatdoor", sum := "5924f4f00edf4f63aa8fd34378e8ae5f8c3b20a4436b03d7ef15c13f748045ea", func := "warden/wardenlaw13.ValidFirst", spec := "validFirst", unfollowed := true, recurses := true, named := ["warden/sha.rounds", "warden/wardenref02.K"], apart := false, laid := [("warden/sha.rounds", laid_warden_sha_rounds), ("warden/wardenref02.K", laid_warden_wardenref02_K)] }
def ValidFirstSaid : Prop := validFirstRow.holds Tryz.pinned (OpenSpec.ofChange validFirstSpec)

/-- ITS FALSE NEIGHBOUR: 'it returns false'. Refute it at one input. -/
def validFirstWrong : ChangeSpec := { name := "validFirst", fn := fun _ => fun
  | [d1, d2, d3] => { results := [.lit (.bool false)], args := [d1, d2, d3] }
  | _ => none }
def ValidFirstWrongFalsely : Prop := validFirstRow.holds Tryz.pinned (OpenSpec.ofChange validFirstWrong)

/- THE SECOND FORM. 'bulk': how many values and letters a reading holds, each counted each time it is reached (what is shared counts as often as it is met; a slice's spare places count too). A statement '..UptoSaid' is the law's where the arguments, and the package variables that the reading takes, are together of bulk at most 1048576: NARROWER than '..Said'. Prove '..Said' where nothing that the law and all that it calls make is longer than what came in: it says more and counts as full. Else prove '..UptoSaid'. A law counts once. -/
mutual
def uptoBulk {H : Type} : DataW H → Nat
  | .lit (.string bytes) => bytes.length + 1
  | .lit _ => 1
  | .nil => 1
  | .ptr d => uptoBulk d + 1
  | .slice elems spare => uptoBulkAll elems + uptoBulkAll spare + 1
  | .agg parts => uptoBulkAll parts + 1
  | .iface _ d => uptoBulk d + 1
  | .map entries => uptoBulkEntries entries + 1
  | .held _ => 1
def uptoBulkAll {H : Type} : List (DataW H) → Nat
  | [] => 0
  | d :: r => uptoBulk d + uptoBulkAll r
def uptoBulkEntries {H : Type} : List (Lit × DataW H) → Nat
  | [] => 0
  | x :: r => uptoBulkEntry x + uptoBulkEntries r
def uptoBulkEntry {H : Type} : Lit × DataW H → Nat
  | (.string bytes, d) => bytes.length + uptoBulk d + 1
  | (_, d) => uptoBulk d + 1
 end
def uptoSmall : (H : Type) → List (DataW H) → Bool := fun _ ds => decide (uptoBulkAll ds ≤ 1048576)
def OpenSpec.upto (s : _root_.Go.ChangeSpec) : _root_.Go.OpenSpec := { _root_.Go.OpenSpec.ofChange s with cond := some uptoSmall }

/-- 'wardenlaw13.ValidSpoils', WHERE WHAT IT READS IS OF BULK AT MOST 1048576: true; the input reads as it did. -/
def validSpoilsUptoRow : OpenClaim := { program := "ytbjlecpmgocoeaagreatdoor", sum := "5924f4f00edf4f63aa8fd34378e8ae5f8c3b20a4436b03d7ef15c13f748045ea", func := "warden/wardenlaw13.ValidSpoils", spec := "validSpoils", unfollowed := true, recurses := true, named := ["warden/sha.rounds", "warden/wardenref02.K"], apart := false, laid := [("warden/sha.rounds", laid_warden_sha_rounds), ("warden/wardenref02.K", laid_warden_wardenref02_K)], narrowed := true }
def ValidSpoilsUptoSaid : Prop := validSpoilsUptoRow.holds Tryz.pinned (OpenSpec.upto validSpoilsSpec)

/-- 'wardenlaw13.ValidAll', WHERE WHAT IT READS IS OF BULK AT MOST 1048576: true; the input reads as it did. -/
def validAllUptoRow : OpenClaim := { program := "ytbjlecpmgocoeaagreatdoor", sum := "5924f4f00edf4f63aa8fd34378e8ae5f8c3b20a4436b03d7ef15c13f748045ea", func := "warden/wardenlaw13.ValidAll", spec := "validAll", unfollowed := true, recurses := true, named := ["warden/sha.rounds", "warden/wardenref02.K", "warden/valid.says"], apart := false, laid := [("warden/sha.rounds", laid_warden_sha_rounds), ("warden/wardenref02.K", laid_warden_wardenref02_K), ("warden/valid.says", laid_warden_valid_says)], narrowed := true }
def ValidAllUptoSaid : Prop := validAllUptoRow.holds Tryz.pinned (OpenSpec.upto validAllSpec)

/-- 'wardenlaw13.ValidFirst', WHERE WHAT IT READS IS OF BULK AT MOST 1048576: true; the input reads as it did. -/
def validFirstUptoRow : OpenClaim := { program := "ytbjlecpmgocoeaagreatdoor", sum := "5924f4f00edf4f63aa8fd34378e8ae5f8c3b20a4436b03d7ef15c13f748045ea", func := "warden/wardenlaw13.ValidFirst", spec := "validFirst", unfollowed := true, recurses := true, named := ["warden/sha.rounds", "warden/wardenref02.K"], apart := false, laid := [("warden/sha.rounds", laid_warden_sha_rounds), ("warden/wardenref02.K", laid_warden_wardenref02_K)], narrowed := true }
def ValidFirstUptoSaid : Prop := validFirstUptoRow.holds Tryz.pinned (OpenSpec.upto validFirstSpec)

end Rows
end Go.Proofs.YtbjlecpmgocoeaaGreatDoor

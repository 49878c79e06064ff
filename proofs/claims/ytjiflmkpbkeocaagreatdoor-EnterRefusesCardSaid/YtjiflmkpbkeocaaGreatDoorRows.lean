/-
  NARROWER THAN 'FOR EVERY INPUT', by the rows' own cells (each row's printed sentence says how): EnterLocal: laid · EnterGoesOn: laid · EnterRefuses: laid · EnterHides: laid.
  DERIVED. THE GIVEN ROWS OF THIS SEAT. 4 by the template 'for every input the law returns true; each argument reads behind the call as it read before'; 0 by the template 'total and deterministic' (their statements: YtjiflmkpbkeocaaGreatDoorTotals.lean).
  GIVEN WITH THE SEED: the statements are not yours to turn. If you find one false, say at which input.
  Laid BY PROGRAM, IN A SANDBOX (cutbox-rows.mjs): the forced cells as the released guide's own fill.sh prints them over the translation 79bc06cbaa149cf2… (all of the seat's roots in one cut). By AI agents, Wed Nov 11 2026. No macro, syntax, notation, axiom, sorry.
-/
import Derived.Test.YtjiflmkpbkeocaaGreatDoorChecked
import GoSem.Claim
import GoSem.ClaimJoined
import GoSem.ClaimMapViews
import Derived.JoinedTies
import Derived.KernelRfl
namespace Go.Proofs.YtjiflmkpbkeocaaGreatDoor
/- THE CELL 'sum', in the pinned program and in every row, IS THE sha256 OF THE DUMP (.gsa) THAT YtjiflmkpbkeocaaGreatDoorProg.lean LOADS. Nothing in Lean hashes anything: it is a label: what it is worth is what the hold of that sum in a sandbox is worth. -/
noncomputable def Tryz.pinned : Pinned := { name := "ytjiflmkpbkeocaagreatdoor", sum := "79bc06cbaa149cf2d7a7714590f7bacae931bdc688fc9a4a3d50e9c0d613f780", checked := Tryz.checked }
namespace Rows
def none {H : Type} : Left H := { results := [], args := [] }

/- WHAT THE LISTED PACKAGE-LEVEL VARIABLES READ AS WHEN THE CALL BEGINS. Each datum BY PROGRAM (the guide's laid-datum.mjs) off the statement by which the dump's own 'gosem.cut.vars' lays the variable. In a bare row this is a premise. The card (YtjiflmkpbkeocaaGreatDoorCards.lean) ties it to the program's text. -/
def laid_warden_sha_rounds {H : Type} : DataW H := .agg [.lit (.int .u32 1116352408), .lit (.int .u32 1899447441), .lit (.int .u32 3049323471), .lit (.int .u32 3921009573), .lit (.int .u32 961987163), .lit (.int .u32 1508970993), .lit (.int .u32 2453635748), .lit (.int .u32 2870763221), .lit (.int .u32 3624381080), .lit (.int .u32 310598401), .lit (.int .u32 607225278), .lit (.int .u32 1426881987), .lit (.int .u32 1925078388), .lit (.int .u32 2162078206), .lit (.int .u32 2614888103), .lit (.int .u32 3248222580), .lit (.int .u32 3835390401), .lit (.int .u32 4022224774), .lit (.int .u32 264347078), .lit (.int .u32 604807628), .lit (.int .u32 770255983), .lit (.int .u32 1249150122), .lit (.int .u32 1555081692), .lit (.int .u32 1996064986), .lit (.int .u32 2554220882), .lit (.int .u32 2821834349), .lit (.int .u32 2952996808), .lit (.int .u32 3210313671), .lit (.int .u32 3336571891), .lit (.int .u32 3584528711), .lit (.int .u32 113926993), .lit (.int .u32 338241895), .lit (.int .u32 666307205), .lit (.int .u32 773529912), .lit (.int .u32 1294757372), .lit (.int .u32 1396182291), .lit (.int .u32 1695183700), .lit (.int .u32 1986661051), .lit (.int .u32 2177026350), .lit (.int .u32 2456956037), .lit (.int .u32 2730485921), .lit (.int .u32 2820302411), .lit (.int .u32 3259730800), .lit (.int .u32 3345764771), .lit (.int .u32 3516065817), .lit (.int .u32 3600352804), .lit (.int .u32 4094571909), .lit (.int .u32 275423344), .lit (.int .u32 430227734), .lit (.int .u32 506948616), .lit (.int .u32 659060556), .lit (.int .u32 883997877), .lit (.int .u32 958139571), .lit (.int .u32 1322822218), .lit (.int .u32 1537002063), .lit (.int .u32 1747873779), .lit (.int .u32 1955562222), .lit (.int .u32 2024104815), .lit (.int .u32 2227730452), .lit (.int .u32 2361852424), .lit (.int .u32 2428436474), .lit (.int .u32 2756734187), .lit (.int .u32 3204031479), .lit (.int .u32 3329325298)]
def laid_warden_isa_uses {H : Type} : DataW H := .agg [.agg [.lit (.string []), .lit (.string [])], .agg [.lit (.string [109, 111, 118, 105]), .lit (.string [97, 117])], .agg [.lit (.string [109, 111, 118, 116]), .lit (.string [97, 117])], .agg [.lit (.string [109, 111, 118]), .lit (.string [97, 98])], .agg [.lit (.string [97, 100, 100]), .lit (.string [97, 98, 99])], .agg [.lit (.string [115, 117, 98]), .lit (.string [97, 98, 99])], .agg [.lit (.string [109, 117, 108]), .lit (.string [97, 98, 99])], .agg [.lit (.string [100, 105, 118]), .lit (.string [97, 98, 99])], .agg [.lit (.string [97, 110, 100]), .lit (.string [97, 98, 99])], .agg [.lit (.string [111, 114]), .lit (.string [97, 98, 99])], .agg [.lit (.string [120, 111, 114]), .lit (.string [97, 98, 99])], .agg [.lit (.string [115, 104, 108]), .lit (.string [97, 98, 99])], .agg [.lit (.string [115, 104, 114]), .lit (.string [97, 98, 99])], .agg [.lit (.string [115, 97, 114]), .lit (.string [97, 98, 99])], .agg [.lit (.string [97, 100, 100, 105]), .lit (.string [97, 98, 115])], .agg [.lit (.string [108, 100, 114]), .lit (.string [97, 98, 115])], .agg [.lit (.string [115, 116, 114]), .lit (.string [97, 98, 115])], .agg [.lit (.string [108, 100, 120]), .lit (.string [97, 98, 99])], .agg [.lit (.string [115, 116, 120]), .lit (.string [97, 98, 99])], .agg [.lit (.string [99, 109, 112]), .lit (.string [97, 98])], .agg [.lit (.string [99, 109, 112, 105]), .lit (.string [97, 115])], .agg [.lit (.string [98]), .lit (.string [107, 111])], .agg [.lit (.string [98, 108]), .lit (.string [111])], .agg [.lit (.string [98, 114]), .lit (.string [97])], .agg [.lit (.string [115, 118, 99]), .lit (.string [117])]]
def laid_warden_cpu_groups {H : Type} : DataW H := .agg [.lit (.int .i64 0), .lit (.int .i64 1), .lit (.int .i64 1), .lit (.int .i64 1), .lit (.int .i64 2), .lit (.int .i64 2), .lit (.int .i64 2), .lit (.int .i64 2), .lit (.int .i64 2), .lit (.int .i64 2), .lit (.int .i64 2), .lit (.int .i64 2), .lit (.int .i64 2), .lit (.int .i64 2), .lit (.int .i64 1), .lit (.int .i64 3), .lit (.int .i64 3), .lit (.int .i64 3), .lit (.int .i64 3), .lit (.int .i64 4), .lit (.int .i64 4), .lit (.int .i64 5), .lit (.int .i64 5), .lit (.int .i64 5), .lit (.int .i64 6)]

/-- 'wardenlaw20.EnterLocal': WHATEVER THE INPUT: true; the input reads as it did. -/
def enterLocalSpec : ChangeSpec := { name := "enterLocal", fn := fun _ => fun
  | [d1, d2, d3] => { results := [.lit (.bool true)], args := [d1, d2, d3] }
  | _ => none }
def enterLocalRow : OpenClaim := { program := "ytjiflmkpbkeocaagreatdoor", sum := "79bc06cbaa149cf2d7a7714590f7bacae931bdc688fc9a4a3d50e9c0d613f780", func := "warden/wardenlaw20.EnterLocal", spec := "enterLocal", unfollowed := true, recurses := true, named := ["warden/sha.rounds", "warden/isa.uses", "warden/cpu.groups"], apart := false, laid := [("warden/sha.rounds", laid_warden_sha_rounds), ("warden/isa.uses", laid_warden_isa_uses), ("warden/cpu.groups", laid_warden_cpu_groups)] }
def EnterLocalSaid : Prop := enterLocalRow.holds Tryz.pinned (OpenSpec.ofChange enterLocalSpec)

/-- ITS FALSE NEIGHBOUR: 'it returns false'. Refute it at one input. -/
def enterLocalWrong : ChangeSpec := { name := "enterLocal", fn := fun _ => fun
  | [d1, d2, d3] => { results := [.lit (.bool false)], args := [d1, d2, d3] }
  | _ => none }
def EnterLocalWrongFalsely : Prop := enterLocalRow.holds Tryz.pinned (OpenSpec.ofChange enterLocalWrong)

/-- 'wardenlaw20.EnterGoesOn': WHATEVER THE INPUT: true; the input reads as it did. -/
def enterGoesOnSpec : ChangeSpec := { name := "enterGoesOn", fn := fun _ => fun
  | [d1, d2, d3] => { results := [.lit (.bool true)], args := [d1, d2, d3] }
  | _ => none }
def enterGoesOnRow : OpenClaim := { program := "ytjiflmkpbkeocaagreatdoor", sum := "79bc06cbaa149cf2d7a7714590f7bacae931bdc688fc9a4a3d50e9c0d613f780", func := "warden/wardenlaw20.EnterGoesOn", spec := "enterGoesOn", unfollowed := true, recurses := true, named := ["warden/sha.rounds", "warden/isa.uses", "warden/cpu.groups"], apart := false, laid := [("warden/sha.rounds", laid_warden_sha_rounds), ("warden/isa.uses", laid_warden_isa_uses), ("warden/cpu.groups", laid_warden_cpu_groups)] }
def EnterGoesOnSaid : Prop := enterGoesOnRow.holds Tryz.pinned (OpenSpec.ofChange enterGoesOnSpec)

/-- ITS FALSE NEIGHBOUR: 'it returns false'. Refute it at one input. -/
def enterGoesOnWrong : ChangeSpec := { name := "enterGoesOn", fn := fun _ => fun
  | [d1, d2, d3] => { results := [.lit (.bool false)], args := [d1, d2, d3] }
  | _ => none }
def EnterGoesOnWrongFalsely : Prop := enterGoesOnRow.holds Tryz.pinned (OpenSpec.ofChange enterGoesOnWrong)

/-- 'wardenlaw20.EnterRefuses': WHATEVER THE INPUT: true; the input reads as it did. -/
def enterRefusesSpec : ChangeSpec := { name := "enterRefuses", fn := fun _ => fun
  | [d1, d2] => { results := [.lit (.bool true)], args := [d1, d2] }
  | _ => none }
def enterRefusesRow : OpenClaim := { program := "ytjiflmkpbkeocaagreatdoor", sum := "79bc06cbaa149cf2d7a7714590f7bacae931bdc688fc9a4a3d50e9c0d613f780", func := "warden/wardenlaw20.EnterRefuses", spec := "enterRefuses", unfollowed := true, recurses := true, named := ["warden/sha.rounds", "warden/isa.uses", "warden/cpu.groups"], apart := false, laid := [("warden/sha.rounds", laid_warden_sha_rounds), ("warden/isa.uses", laid_warden_isa_uses), ("warden/cpu.groups", laid_warden_cpu_groups)] }
def EnterRefusesSaid : Prop := enterRefusesRow.holds Tryz.pinned (OpenSpec.ofChange enterRefusesSpec)

/-- ITS FALSE NEIGHBOUR: 'it returns false'. Refute it at one input. -/
def enterRefusesWrong : ChangeSpec := { name := "enterRefuses", fn := fun _ => fun
  | [d1, d2] => { results := [.lit (.bool false)], args := [d1, d2] }
  | _ => none }
def EnterRefusesWrongFalsely : Prop := enterRefusesRow.holds Tryz.pinned (OpenSpec.ofChange enterRefusesWrong)

/-- 'wardenlaw20.EnterHides': WHATEVER THE INPUT: true; the input reads as it did. -/
def enterHidesSpec : ChangeSpec := { name := "enterHides", fn := fun _ => fun
  | [d1, d2] => { results := [.lit (.bool true)], args := [d1, d2] }
  | _ => none }
def enterHidesRow : OpenClaim := { program := "ytjiflmkpbkeocaagreatdoor", sum := "79bc06cbaa149cf2d7a7714590f7bacae931bdc688fc9a4a3d50e9c0d613f780", func := "warden/wardenlaw20.EnterHides", spec := "enterHides", unfollowed := true, recurses := true, named := ["warden/sha.rounds", "warden/isa.uses", "warden/cpu.groups"], apart := false, laid := [("warden/sha.rounds", laid_warden_sha_rounds), ("warden/isa.uses", laid_warden_isa_uses), ("warden/cpu.groups", laid_warden_cpu_groups)] }
def EnterHidesSaid : Prop := enterHidesRow.holds Tryz.pinned (OpenSpec.ofChange enterHidesSpec)

/-- ITS FALSE NEIGHBOUR: 'it returns false'. Refute it at one input. -/
def enterHidesWrong : ChangeSpec := { name := "enterHides", fn := fun _ => fun
  | [d1, d2] => { results := [.lit (.bool false)], args := [d1, d2] }
  | _ => none }
def EnterHidesWrongFalsely : Prop := enterHidesRow.holds Tryz.pinned (OpenSpec.ofChange enterHidesWrong)

/- THE SECOND FORM. 'bulk': how many values and letters a reading holds, each counted each time it is reached (what is shared counts as often as it is met; a slice's spare places count too). A statement '..UptoSaid' is the law's where the arguments, and the package variables that the reading takes, are together of bulk at most 1048576: NARROWER than '..Said'. Prove '..Said' where nothing that the law and all that it calls make is longer than what came in: it says more and counts as full. Else prove '..UptoSaid'. A law counts once. -/
mutual
def uptoBulk {H : Type} : DataW H → Nat
  | .lit (.string bytes) => bytes.length + 1
  | .lit _ => 1
  | .nil => 1
  | .ptr d => uptoBulk d + 1
  | .slice elems spare => uptoBulkAll elems + uptoBulkAll spare + 1
  | .agg parts => uptoBulkAll parts + 1
  | .iface _ d => uptoBulk d + 1
  | .map entries => uptoBulkEntries entries + 1
  | .held _ => 1
def uptoBulkAll {H : Type} : List (DataW H) → Nat
  | [] => 0
  | d :: r => uptoBulk d + uptoBulkAll r
def uptoBulkEntries {H : Type} : List (Lit × DataW H) → Nat
  | [] => 0
  | x :: r => uptoBulkEntry x + uptoBulkEntries r
def uptoBulkEntry {H : Type} : Lit × DataW H → Nat
  | (.string bytes, d) => bytes.length + uptoBulk d + 1
  | (_, d) => uptoBulk d + 1
 end
def uptoSmall : (H : Type) → List (DataW H) → Bool := fun _ ds => decide (uptoBulkAll ds ≤ 1048576)
def OpenSpec.upto (s : _root_.Go.ChangeSpec) : _root_.Go.OpenSpec := { _root_.Go.OpenSpec.ofChange s with cond := some uptoSmall }

/-- 'wardenlaw20.EnterLocal', WHERE WHAT IT READS IS OF BULK AT MOST 1048576: true; the input reads as it did. -/
def enterLocalUptoRow : OpenClaim := { program := "ytjiflmkpbkeocaagreatdoor", sum := "79bc06cbaa149cf2d7a7714590f7bacae931bdc688fc9a4a3d50e9c0d613f780", func := "warden/wardenlaw20.EnterLocal", spec := "enterLocal", unfollowed := true, recurses := true, named := ["warden/sha.rounds", "warden/isa.uses", "warden/cpu.groups"], apart := false, laid := [("warden/sha.rounds", laid_warden_sha_rounds), ("warden/isa.uses", laid_warden_isa_uses), ("warden/cpu.groups", laid_warden_cpu_groups)], narrowed := true }
def EnterLocalUptoSaid : Prop := enterLocalUptoRow.holds Tryz.pinned (OpenSpec.upto enterLocalSpec)

/-- 'wardenlaw20.EnterGoesOn', WHERE WHAT IT READS IS OF BULK AT MOST 1048576: true; the input reads as it did. -/
def enterGoesOnUptoRow : OpenClaim := { program := "ytjiflmkpbkeocaagreatdoor", sum := "79bc06cbaa149cf2d7a7714590f7bacae931bdc688fc9a4a3d50e9c0d613f780", func := "warden/wardenlaw20.EnterGoesOn", spec := "enterGoesOn", unfollowed := true, recurses := true, named := ["warden/sha.rounds", "warden/isa.uses", "warden/cpu.groups"], apart := false, laid := [("warden/sha.rounds", laid_warden_sha_rounds), ("warden/isa.uses", laid_warden_isa_uses), ("warden/cpu.groups", laid_warden_cpu_groups)], narrowed := true }
def EnterGoesOnUptoSaid : Prop := enterGoesOnUptoRow.holds Tryz.pinned (OpenSpec.upto enterGoesOnSpec)

/-- 'wardenlaw20.EnterRefuses', WHERE WHAT IT READS IS OF BULK AT MOST 1048576: true; the input reads as it did. -/
def enterRefusesUptoRow : OpenClaim := { program := "ytjiflmkpbkeocaagreatdoor", sum := "79bc06cbaa149cf2d7a7714590f7bacae931bdc688fc9a4a3d50e9c0d613f780", func := "warden/wardenlaw20.EnterRefuses", spec := "enterRefuses", unfollowed := true, recurses := true, named := ["warden/sha.rounds", "warden/isa.uses", "warden/cpu.groups"], apart := false, laid := [("warden/sha.rounds", laid_warden_sha_rounds), ("warden/isa.uses", laid_warden_isa_uses), ("warden/cpu.groups", laid_warden_cpu_groups)], narrowed := true }
def EnterRefusesUptoSaid : Prop := enterRefusesUptoRow.holds Tryz.pinned (OpenSpec.upto enterRefusesSpec)

/-- 'wardenlaw20.EnterHides', WHERE WHAT IT READS IS OF BULK AT MOST 1048576: true; the input reads as it did. -/
def enterHidesUptoRow : OpenClaim := { program := "ytjiflmkpbkeocaagreatdoor", sum := "79bc06cbaa149cf2d7a7714590f7bacae931bdc688fc9a4a3d50e9c0d613f780", func := "warden/wardenlaw20.EnterHides", spec := "enterHides", unfollowed := true, recurses := true, named := ["warden/sha.rounds", "warden/isa.uses", "warden/cpu.groups"], apart := false, laid := [("warden/sha.rounds", laid_warden_sha_rounds), ("warden/isa.uses", laid_warden_isa_uses), ("warden/cpu.groups", laid_warden_cpu_groups)], narrowed := true }
def EnterHidesUptoSaid : Prop := enterHidesUptoRow.holds Tryz.pinned (OpenSpec.upto enterHidesSpec)

end Rows
end Go.Proofs.YtjiflmkpbkeocaaGreatDoor

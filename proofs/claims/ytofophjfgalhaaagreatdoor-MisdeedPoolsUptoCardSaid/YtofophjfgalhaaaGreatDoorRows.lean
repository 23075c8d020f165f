/-
  NARROWER THAN 'FOR EVERY INPUT', by the rows' own cells (each row's printed sentence says how): MisdeedVerifies: laid · BlameLooks: laid · BlameHonest: laid · MisdeedNil: laid · MisdeedPools: laid · MisdeedPicks: laid.
  DERIVED. THE GIVEN ROWS OF THIS SEAT. 6 by the template 'for every input the law returns true; each argument reads behind the call as it read before'; 0 by the template 'total and deterministic' (their statements: YtofophjfgalhaaaGreatDoorTotals.lean).
  GIVEN WITH THE SEED: the statements are not yours to turn. If you find one false, say at which input.
  Laid BY PROGRAM, IN A SANDBOX (cutbox-rows.mjs): the forced cells as the released guide's own fill.sh prints them over the translation 5d28dcd084ccbef6… (all of the seat's roots in one cut). By AI agents, Wed Nov 11 2026. No macro, syntax, notation, axiom, sorry.
-/
import Derived.Test.YtofophjfgalhaaaGreatDoorChecked
import GoSem.Claim
import GoSem.ClaimJoined
import GoSem.ClaimMapViews
import Derived.JoinedTies
import Derived.KernelRfl
namespace Go.Proofs.YtofophjfgalhaaaGreatDoor
/- THE CELL 'sum', in the pinned program and in every row, IS THE sha256 OF THE DUMP (.gsa) THAT YtofophjfgalhaaaGreatDoorProg.lean LOADS. Nothing in Lean hashes anything: it is a label: what it is worth is what the hold of that sum in a sandbox is worth. -/
noncomputable def Tryz.pinned : Pinned := { name := "ytofophjfgalhaaagreatdoor", sum := "5d28dcd084ccbef6034a7d31feb90c25368d49108e2583208d951b7cfa4f9308", checked := Tryz.checked }
namespace Rows
def none {H : Type} : Left H := { results := [], args := [] }

/- WHAT THE LISTED PACKAGE-LEVEL VARIABLES READ AS WHEN THE CALL BEGINS. Each datum BY PROGRAM (the guide's laid-datum.mjs) off the statement by which the dump's own 'gosem.cut.vars' lays the variable. In a bare row this is a premise. The card (YtofophjfgalhaaaGreatDoorCards.lean) ties it to the program's text. -/
def laid_assent_assentref02_adds {H : Type} : DataW H := .agg [.lit (.int .u32 1116352408), .lit (.int .u32 1899447441), .lit (.int .u32 3049323471), .lit (.int .u32 3921009573), .lit (.int .u32 961987163), .lit (.int .u32 1508970993), .lit (.int .u32 2453635748), .lit (.int .u32 2870763221), .lit (.int .u32 3624381080), .lit (.int .u32 310598401), .lit (.int .u32 607225278), .lit (.int .u32 1426881987), .lit (.int .u32 1925078388), .lit (.int .u32 2162078206), .lit (.int .u32 2614888103), .lit (.int .u32 3248222580), .lit (.int .u32 3835390401), .lit (.int .u32 4022224774), .lit (.int .u32 264347078), .lit (.int .u32 604807628), .lit (.int .u32 770255983), .lit (.int .u32 1249150122), .lit (.int .u32 1555081692), .lit (.int .u32 1996064986), .lit (.int .u32 2554220882), .lit (.int .u32 2821834349), .lit (.int .u32 2952996808), .lit (.int .u32 3210313671), .lit (.int .u32 3336571891), .lit (.int .u32 3584528711), .lit (.int .u32 113926993), .lit (.int .u32 338241895), .lit (.int .u32 666307205), .lit (.int .u32 773529912), .lit (.int .u32 1294757372), .lit (.int .u32 1396182291), .lit (.int .u32 1695183700), .lit (.int .u32 1986661051), .lit (.int .u32 2177026350), .lit (.int .u32 2456956037), .lit (.int .u32 2730485921), .lit (.int .u32 2820302411), .lit (.int .u32 3259730800), .lit (.int .u32 3345764771), .lit (.int .u32 3516065817), .lit (.int .u32 3600352804), .lit (.int .u32 4094571909), .lit (.int .u32 275423344), .lit (.int .u32 430227734), .lit (.int .u32 506948616), .lit (.int .u32 659060556), .lit (.int .u32 883997877), .lit (.int .u32 958139571), .lit (.int .u32 1322822218), .lit (.int .u32 1537002063), .lit (.int .u32 1747873779), .lit (.int .u32 1955562222), .lit (.int .u32 2024104815), .lit (.int .u32 2227730452), .lit (.int .u32 2361852424), .lit (.int .u32 2428436474), .lit (.int .u32 2756734187), .lit (.int .u32 3204031479), .lit (.int .u32 3329325298)]
def laid_assent_digest_adds {H : Type} : DataW H := .agg [.lit (.int .u32 1116352408), .lit (.int .u32 1899447441), .lit (.int .u32 3049323471), .lit (.int .u32 3921009573), .lit (.int .u32 961987163), .lit (.int .u32 1508970993), .lit (.int .u32 2453635748), .lit (.int .u32 2870763221), .lit (.int .u32 3624381080), .lit (.int .u32 310598401), .lit (.int .u32 607225278), .lit (.int .u32 1426881987), .lit (.int .u32 1925078388), .lit (.int .u32 2162078206), .lit (.int .u32 2614888103), .lit (.int .u32 3248222580), .lit (.int .u32 3835390401), .lit (.int .u32 4022224774), .lit (.int .u32 264347078), .lit (.int .u32 604807628), .lit (.int .u32 770255983), .lit (.int .u32 1249150122), .lit (.int .u32 1555081692), .lit (.int .u32 1996064986), .lit (.int .u32 2554220882), .lit (.int .u32 2821834349), .lit (.int .u32 2952996808), .lit (.int .u32 3210313671), .lit (.int .u32 3336571891), .lit (.int .u32 3584528711), .lit (.int .u32 113926993), .lit (.int .u32 338241895), .lit (.int .u32 666307205), .lit (.int .u32 773529912), .lit (.int .u32 1294757372), .lit (.int .u32 1396182291), .lit (.int .u32 1695183700), .lit (.int .u32 1986661051), .lit (.int .u32 2177026350), .lit (.int .u32 2456956037), .lit (.int .u32 2730485921), .lit (.int .u32 2820302411), .lit (.int .u32 3259730800), .lit (.int .u32 3345764771), .lit (.int .u32 3516065817), .lit (.int .u32 3600352804), .lit (.int .u32 4094571909), .lit (.int .u32 275423344), .lit (.int .u32 430227734), .lit (.int .u32 506948616), .lit (.int .u32 659060556), .lit (.int .u32 883997877), .lit (.int .u32 958139571), .lit (.int .u32 1322822218), .lit (.int .u32 1537002063), .lit (.int .u32 1747873779), .lit (.int .u32 1955562222), .lit (.int .u32 2024104815), .lit (.int .u32 2227730452), .lit (.int .u32 2361852424), .lit (.int .u32 2428436474), .lit (.int .u32 2756734187), .lit (.int .u32 3204031479), .lit (.int .u32 3329325298)]
def laid_assent_digest_begin {H : Type} : DataW H := .agg [.lit (.int .u32 1779033703), .lit (.int .u32 3144134277), .lit (.int .u32 1013904242), .lit (.int .u32 2773480762), .lit (.int .u32 1359893119), .lit (.int .u32 2600822924), .lit (.int .u32 528734635), .lit (.int .u32 1541459225)]
def laid_assent_blame_none {H : Type} : DataW H := .agg [.lit (.int .u8 0), .lit (.int .u8 0), .lit (.int .u8 0), .lit (.int .u8 0), .lit (.int .u8 0), .lit (.int .u8 0), .lit (.int .u8 0), .lit (.int .u8 0), .lit (.int .u8 0), .lit (.int .u8 0), .lit (.int .u8 0), .lit (.int .u8 0), .lit (.int .u8 0), .lit (.int .u8 0), .lit (.int .u8 0), .lit (.int .u8 0), .lit (.int .u8 0), .lit (.int .u8 0), .lit (.int .u8 0), .lit (.int .u8 0), .lit (.int .u8 0), .lit (.int .u8 0), .lit (.int .u8 0), .lit (.int .u8 0), .lit (.int .u8 0), .lit (.int .u8 0), .lit (.int .u8 0), .lit (.int .u8 0), .lit (.int .u8 0), .lit (.int .u8 0), .lit (.int .u8 0), .lit (.int .u8 0)]

/-- 'assentlaw11.MisdeedVerifies': WHATEVER THE INPUT: true; the input reads as it did. -/
def misdeedVerifiesSpec : ChangeSpec := { name := "misdeedVerifies", fn := fun _ => fun
  | [d1, d2, d3] => { results := [.lit (.bool true)], args := [d1, d2, d3] }
  | _ => none }
def misdeedVerifiesRow : OpenClaim := { program := "ytofophjfgalhaaagreatdoor", sum := "5d28dcd084ccbef6034a7d31feb90c25368d49108e2583208d951b7cfa4f9308", func := "assent/assentlaw11.MisdeedVerifies", spec := "misdeedVerifies", inPlace := ["internal/bytealg.Compare", "(*internal/sync.Mutex).Lock", "internal/race.Disable", "sync/atomic.CompareAndSwapInt32", "internal/race.Enable", "internal/race.Acquire", "(*internal/sync.Mutex).lockSlow", "internal/sync.runtime_canSpin", "internal/sync.runtime_doSpin", "internal/sync.throw", "internal/sync.runtime_nanotime", "internal/sync.runtime_SemacquireMutex", "sync/atomic.AddInt32", "(*internal/sync.Mutex).Unlock", "internal/race.ReleaseMerge", "(*internal/sync.Mutex).unlockSlow", "internal/sync.fatal", "internal/sync.runtime_Semrelease"], unfollowed := true, recurses := true, named := ["assent/digest.begin", "assent/digest.adds", "assent/assentref02.adds"], plainKeys := false, apart := false, laid := [("assent/assentref02.adds", laid_assent_assentref02_adds), ("assent/digest.adds", laid_assent_digest_adds), ("assent/digest.begin", laid_assent_digest_begin)] }
def MisdeedVerifiesSaid : Prop := misdeedVerifiesRow.holds Tryz.pinned (OpenSpec.ofChange misdeedVerifiesSpec)

/-- ITS FALSE NEIGHBOUR: 'it returns false'. Refute it at one input. -/
def misdeedVerifiesWrong : ChangeSpec := { name := "misdeedVerifies", fn := fun _ => fun
  | [d1, d2, d3] => { results := [.lit (.bool false)], args := [d1, d2, d3] }
  | _ => none }
def MisdeedVerifiesWrongFalsely : Prop := misdeedVerifiesRow.holds Tryz.pinned (OpenSpec.ofChange misdeedVerifiesWrong)

/-- 'assentlaw17.BlameLooks': WHATEVER THE INPUT: true; the input reads as it did. -/
def blameLooksSpec : ChangeSpec := { name := "blameLooks", fn := fun _ => fun
  | [d] => { results := [.lit (.bool true)], args := [d] }
  | _ => none }
def blameLooksRow : OpenClaim := { program := "ytofophjfgalhaaagreatdoor", sum := "5d28dcd084ccbef6034a7d31feb90c25368d49108e2583208d951b7cfa4f9308", func := "assent/assentlaw17.BlameLooks", spec := "blameLooks", inPlace := ["(*internal/sync.Mutex).Lock", "internal/race.Disable", "sync/atomic.CompareAndSwapInt32", "internal/race.Enable", "internal/race.Acquire", "(*internal/sync.Mutex).lockSlow", "internal/sync.runtime_canSpin", "internal/sync.runtime_doSpin", "internal/sync.throw", "internal/sync.runtime_nanotime", "internal/sync.runtime_SemacquireMutex", "sync/atomic.AddInt32", "(*internal/sync.Mutex).Unlock", "internal/race.ReleaseMerge", "(*internal/sync.Mutex).unlockSlow", "internal/sync.fatal", "internal/sync.runtime_Semrelease", "internal/bytealg.Compare"], unfollowed := true, recurses := true, named := ["assent/digest.begin", "assent/digest.adds", "assent/assentref02.adds", "assent/blame.none"], plainKeys := false, apart := false, laid := [("assent/assentref02.adds", laid_assent_assentref02_adds), ("assent/digest.adds", laid_assent_digest_adds), ("assent/digest.begin", laid_assent_digest_begin), ("assent/blame.none", laid_assent_blame_none)] }
def BlameLooksSaid : Prop := blameLooksRow.holds Tryz.pinned (OpenSpec.ofChange blameLooksSpec)

/-- ITS FALSE NEIGHBOUR: 'it returns false'. Refute it at one input. -/
def blameLooksWrong : ChangeSpec := { name := "blameLooks", fn := fun _ => fun
  | [d] => { results := [.lit (.bool false)], args := [d] }
  | _ => none }
def BlameLooksWrongFalsely : Prop := blameLooksRow.holds Tryz.pinned (OpenSpec.ofChange blameLooksWrong)

/-- 'assentlaw17.BlameHonest': WHATEVER THE INPUT: true; the input reads as it did. -/
def blameHonestSpec : ChangeSpec := { name := "blameHonest", fn := fun _ => fun
  | [d] => { results := [.lit (.bool true)], args := [d] }
  | _ => none }
def blameHonestRow : OpenClaim := { program := "ytofophjfgalhaaagreatdoor", sum := "5d28dcd084ccbef6034a7d31feb90c25368d49108e2583208d951b7cfa4f9308", func := "assent/assentlaw17.BlameHonest", spec := "blameHonest", inPlace := ["(*internal/sync.Mutex).Lock", "internal/race.Disable", "sync/atomic.CompareAndSwapInt32", "internal/race.Enable", "internal/race.Acquire", "(*internal/sync.Mutex).lockSlow", "internal/sync.runtime_canSpin", "internal/sync.runtime_doSpin", "internal/sync.throw", "internal/sync.runtime_nanotime", "internal/sync.runtime_SemacquireMutex", "sync/atomic.AddInt32", "(*internal/sync.Mutex).Unlock", "internal/race.ReleaseMerge", "(*internal/sync.Mutex).unlockSlow", "internal/sync.fatal", "internal/sync.runtime_Semrelease", "internal/bytealg.Compare"], unfollowed := true, recurses := true, named := ["assent/digest.begin", "assent/digest.adds", "assent/blame.none"], plainKeys := false, apart := false, laid := [("assent/digest.adds", laid_assent_digest_adds), ("assent/digest.begin", laid_assent_digest_begin), ("assent/blame.none", laid_assent_blame_none)] }
def BlameHonestSaid : Prop := blameHonestRow.holds Tryz.pinned (OpenSpec.ofChange blameHonestSpec)

/-- ITS FALSE NEIGHBOUR: 'it returns false'. Refute it at one input. -/
def blameHonestWrong : ChangeSpec := { name := "blameHonest", fn := fun _ => fun
  | [d] => { results := [.lit (.bool false)], args := [d] }
  | _ => none }
def BlameHonestWrongFalsely : Prop := blameHonestRow.holds Tryz.pinned (OpenSpec.ofChange blameHonestWrong)

/-- 'assentlaw11.MisdeedNil': WHATEVER THE INPUT: true; the input reads as it did. -/
def misdeedNilSpec : ChangeSpec := { name := "misdeedNil", fn := fun _ => fun
  | [d1, d2] => { results := [.lit (.bool true)], args := [d1, d2] }
  | _ => none }
def misdeedNilRow : OpenClaim := { program := "ytofophjfgalhaaagreatdoor", sum := "5d28dcd084ccbef6034a7d31feb90c25368d49108e2583208d951b7cfa4f9308", func := "assent/assentlaw11.MisdeedNil", spec := "misdeedNil", inPlace := ["(*internal/sync.Mutex).Lock", "internal/race.Disable", "sync/atomic.CompareAndSwapInt32", "internal/race.Enable", "internal/race.Acquire", "(*internal/sync.Mutex).lockSlow", "internal/sync.runtime_canSpin", "internal/sync.runtime_doSpin", "internal/sync.throw", "internal/sync.runtime_nanotime", "internal/sync.runtime_SemacquireMutex", "sync/atomic.AddInt32", "(*internal/sync.Mutex).Unlock", "internal/race.ReleaseMerge", "(*internal/sync.Mutex).unlockSlow", "internal/sync.fatal", "internal/sync.runtime_Semrelease", "internal/bytealg.Compare"], unfollowed := true, recurses := true, named := ["assent/digest.begin", "assent/digest.adds"], plainKeys := false, apart := false, laid := [("assent/digest.adds", laid_assent_digest_adds), ("assent/digest.begin", laid_assent_digest_begin)] }
def MisdeedNilSaid : Prop := misdeedNilRow.holds Tryz.pinned (OpenSpec.ofChange misdeedNilSpec)

/-- ITS FALSE NEIGHBOUR: 'it returns false'. Refute it at one input. -/
def misdeedNilWrong : ChangeSpec := { name := "misdeedNil", fn := fun _ => fun
  | [d1, d2] => { results := [.lit (.bool false)], args := [d1, d2] }
  | _ => none }
def MisdeedNilWrongFalsely : Prop := misdeedNilRow.holds Tryz.pinned (OpenSpec.ofChange misdeedNilWrong)

/-- 'assentlaw11.MisdeedPools': WHATEVER THE INPUT: true; the input reads as it did. -/
def misdeedPoolsSpec : ChangeSpec := { name := "misdeedPools", fn := fun _ => fun
  | [d1, d2, d3, d4] => { results := [.lit (.bool true)], args := [d1, d2, d3, d4] }
  | _ => none }
def misdeedPoolsRow : OpenClaim := { program := "ytofophjfgalhaaagreatdoor", sum := "5d28dcd084ccbef6034a7d31feb90c25368d49108e2583208d951b7cfa4f9308", func := "assent/assentlaw11.MisdeedPools", spec := "misdeedPools", inPlace := ["internal/bytealg.Compare", "(*internal/sync.Mutex).Lock", "internal/race.Disable", "sync/atomic.CompareAndSwapInt32", "internal/race.Enable", "internal/race.Acquire", "(*internal/sync.Mutex).lockSlow", "internal/sync.runtime_canSpin", "internal/sync.runtime_doSpin", "internal/sync.throw", "internal/sync.runtime_nanotime", "internal/sync.runtime_SemacquireMutex", "sync/atomic.AddInt32", "(*internal/sync.Mutex).Unlock", "internal/race.ReleaseMerge", "(*internal/sync.Mutex).unlockSlow", "internal/sync.fatal", "internal/sync.runtime_Semrelease"], unfollowed := true, recurses := true, named := ["assent/digest.begin", "assent/digest.adds", "assent/assentref02.adds"], plainKeys := false, apart := false, laid := [("assent/assentref02.adds", laid_assent_assentref02_adds), ("assent/digest.adds", laid_assent_digest_adds), ("assent/digest.begin", laid_assent_digest_begin)] }
def MisdeedPoolsSaid : Prop := misdeedPoolsRow.holds Tryz.pinned (OpenSpec.ofChange misdeedPoolsSpec)

/-- ITS FALSE NEIGHBOUR: 'it returns false'. Refute it at one input. -/
def misdeedPoolsWrong : ChangeSpec := { name := "misdeedPools", fn := fun _ => fun
  | [d1, d2, d3, d4] => { results := [.lit (.bool false)], args := [d1, d2, d3, d4] }
  | _ => none }
def MisdeedPoolsWrongFalsely : Prop := misdeedPoolsRow.holds Tryz.pinned (OpenSpec.ofChange misdeedPoolsWrong)

/-- 'assentlaw11.MisdeedPicks': WHATEVER THE INPUT: true; the input reads as it did. -/
def misdeedPicksSpec : ChangeSpec := { name := "misdeedPicks", fn := fun _ => fun
  | [d1, d2, d3] => { results := [.lit (.bool true)], args := [d1, d2, d3] }
  | _ => none }
def misdeedPicksRow : OpenClaim := { program := "ytofophjfgalhaaagreatdoor", sum := "5d28dcd084ccbef6034a7d31feb90c25368d49108e2583208d951b7cfa4f9308", func := "assent/assentlaw11.MisdeedPicks", spec := "misdeedPicks", inPlace := ["internal/bytealg.Compare", "(*internal/sync.Mutex).Lock", "internal/race.Disable", "sync/atomic.CompareAndSwapInt32", "internal/race.Enable", "internal/race.Acquire", "(*internal/sync.Mutex).lockSlow", "internal/sync.runtime_canSpin", "internal/sync.runtime_doSpin", "internal/sync.throw", "internal/sync.runtime_nanotime", "internal/sync.runtime_SemacquireMutex", "sync/atomic.AddInt32", "(*internal/sync.Mutex).Unlock", "internal/race.ReleaseMerge", "(*internal/sync.Mutex).unlockSlow", "internal/sync.fatal", "internal/sync.runtime_Semrelease"], unfollowed := true, recurses := true, named := ["assent/digest.begin", "assent/digest.adds", "assent/assentref02.adds"], plainKeys := false, apart := false, laid := [("assent/assentref02.adds", laid_assent_assentref02_adds), ("assent/digest.adds", laid_assent_digest_adds), ("assent/digest.begin", laid_assent_digest_begin)] }
def MisdeedPicksSaid : Prop := misdeedPicksRow.holds Tryz.pinned (OpenSpec.ofChange misdeedPicksSpec)

/-- ITS FALSE NEIGHBOUR: 'it returns false'. Refute it at one input. -/
def misdeedPicksWrong : ChangeSpec := { name := "misdeedPicks", fn := fun _ => fun
  | [d1, d2, d3] => { results := [.lit (.bool false)], args := [d1, d2, d3] }
  | _ => none }
def MisdeedPicksWrongFalsely : Prop := misdeedPicksRow.holds Tryz.pinned (OpenSpec.ofChange misdeedPicksWrong)

/- THE SECOND FORM. 'bulk': how many values and letters a reading holds, each counted each time it is reached (what is shared counts as often as it is met; a slice's spare places count too). A statement '..UptoSaid' is the law's where the arguments, and the package variables that the reading takes, are together of bulk at most 1048576: NARROWER than '..Said'. Prove '..Said' where nothing that the law and all that it calls make is longer than what came in: it says more and counts as full. Else prove '..UptoSaid'. A law counts once. -/
mutual
def uptoBulk {H : Type} : DataW H → Nat
  | .lit (.string bytes) => bytes.length + 1
  | .lit _ => 1
  | .nil => 1
  | .ptr d => uptoBulk d + 1
  | .slice elems spare => uptoBulkAll elems + uptoBulkAll spare + 1
  | .agg parts => uptoBulkAll parts + 1
  | .iface _ d => uptoBulk d + 1
  | .map entries => uptoBulkEntries entries + 1
  | .held _ => 1
def uptoBulkAll {H : Type} : List (DataW H) → Nat
  | [] => 0
  | d :: r => uptoBulk d + uptoBulkAll r
def uptoBulkEntries {H : Type} : List (Lit × DataW H) → Nat
  | [] => 0
  | x :: r => uptoBulkEntry x + uptoBulkEntries r
def uptoBulkEntry {H : Type} : Lit × DataW H → Nat
  | (.string bytes, d) => bytes.length + uptoBulk d + 1
  | (_, d) => uptoBulk d + 1
 end
def uptoSmall : (H : Type) → List (DataW H) → Bool := fun _ ds => decide (uptoBulkAll ds ≤ 1048576)
def OpenSpec.upto (s : _root_.Go.ChangeSpec) : _root_.Go.OpenSpec := { _root_.Go.OpenSpec.ofChange s with cond := some uptoSmall }

/-- 'assentlaw11.MisdeedVerifies', WHERE WHAT IT READS IS OF BULK AT MOST 1048576: true; the input reads as it did. -/
def misdeedVerifiesUptoRow : OpenClaim := { program := "ytofophjfgalhaaagreatdoor", sum := "5d28dcd084ccbef6034a7d31feb90c25368d49108e2583208d951b7cfa4f9308", func := "assent/assentlaw11.MisdeedVerifies", spec := "misdeedVerifies", inPlace := ["internal/bytealg.Compare", "(*internal/sync.Mutex).Lock", "internal/race.Disable", "sync/atomic.CompareAndSwapInt32", "internal/race.Enable", "internal/race.Acquire", "(*internal/sync.Mutex).lockSlow", "internal/sync.runtime_canSpin", "internal/sync.runtime_doSpin", "internal/sync.throw", "internal/sync.runtime_nanotime", "internal/sync.runtime_SemacquireMutex", "sync/atomic.AddInt32", "(*internal/sync.Mutex).Unlock", "internal/race.ReleaseMerge", "(*internal/sync.Mutex).unlockSlow", "internal/sync.fatal", "internal/sync.runtime_Semrelease"], unfollowed := true, recurses := true, named := ["assent/digest.begin", "assent/digest.adds", "assent/assentref02.adds"], plainKeys := false, apart := false, laid := [("assent/assentref02.adds", laid_assent_assentref02_adds), ("assent/digest.adds", laid_assent_digest_adds), ("assent/digest.begin", laid_assent_digest_begin)], narrowed := true }
def MisdeedVerifiesUptoSaid : Prop := misdeedVerifiesUptoRow.holds Tryz.pinned (OpenSpec.upto misdeedVerifiesSpec)

/-- 'assentlaw17.BlameLooks', WHERE WHAT IT READS IS OF BULK AT MOST 1048576: true; the input reads as it did. -/
def blameLooksUptoRow : OpenClaim := { program := "ytofophjfgalhaaagreatdoor", sum := "5d28dcd084ccbef6034a7d31feb90c25368d49108e2583208d951b7cfa4f9308", func := "assent/assentlaw17.BlameLooks", spec := "blameLooks", inPlace := ["(*internal/sync.Mutex).Lock", "internal/race.Disable", "sync/atomic.CompareAndSwapInt32", "internal/race.Enable", "internal/race.Acquire", "(*internal/sync.Mutex).lockSlow", "internal/sync.runtime_canSpin", "internal/sync.runtime_doSpin", "internal/sync.throw", "internal/sync.runtime_nanotime", "internal/sync.runtime_SemacquireMutex", "sync/atomic.AddInt32", "(*internal/sync.Mutex).Unlock", "internal/race.ReleaseMerge", "(*internal/sync.Mutex).unlockSlow", "internal/sync.fatal", "internal/sync.runtime_Semrelease", "internal/bytealg.Compare"], unfollowed := true, recurses := true, named := ["assent/digest.begin", "assent/digest.adds", "assent/assentref02.adds", "assent/blame.none"], plainKeys := false, apart := false, laid := [("assent/assentref02.adds", laid_assent_assentref02_adds), ("assent/digest.adds", laid_assent_digest_adds), ("assent/digest.begin", laid_assent_digest_begin), ("assent/blame.none", laid_assent_blame_none)], narrowed := true }
def BlameLooksUptoSaid : Prop := blameLooksUptoRow.holds Tryz.pinned (OpenSpec.upto blameLooksSpec)

/-- 'assentlaw17.BlameHonest', WHERE WHAT IT READS IS OF BULK AT MOST 1048576: true; the input reads as it did. -/
def blameHonestUptoRow : OpenClaim := { program := "ytofophjfgalhaaagreatdoor", sum := "5d28dcd084ccbef6034a7d31feb90c25368d49108e2583208d951b7cfa4f9308", func := "assent/assentlaw17.BlameHonest", spec := "blameHonest", inPlace := ["(*internal/sync.Mutex).Lock", "internal/race.Disable", "sync/atomic.CompareAndSwapInt32", "internal/race.Enable", "internal/race.Acquire", "(*internal/sync.Mutex).lockSlow", "internal/sync.runtime_canSpin", "internal/sync.runtime_doSpin", "internal/sync.throw", "internal/sync.runtime_nanotime", "internal/sync.runtime_SemacquireMutex", "sync/atomic.AddInt32", "(*internal/sync.Mutex).Unlock", "internal/race.ReleaseMerge", "(*internal/sync.Mutex).unlockSlow", "internal/sync.fatal", "internal/sync.runtime_Semrelease", "internal/bytealg.Compare"], unfollowed := true, recurses := true, named := ["assent/digest.begin", "assent/digest.adds", "assent/blame.none"], plainKeys := false, apart := false, laid := [("assent/digest.adds", laid_assent_digest_adds), ("assent/digest.begin", laid_assent_digest_begin), ("assent/blame.none", laid_assent_blame_none)], narrowed := true }
def BlameHonestUptoSaid : Prop := blameHonestUptoRow.holds Tryz.pinned (OpenSpec.upto blameHonestSpec)

/-- 'assentlaw11.MisdeedNil', WHERE WHAT IT READS IS OF BULK AT MOST 1048576: true; the input reads as it did. -/
def misdeedNilUptoRow : OpenClaim := { program := "ytofophjfgalhaaagreatdoor", sum := "5d28dcd084ccbef6034a7d31feb90c25368d49108e2583208d951b7cfa4f9308", func := "assent/assentlaw11.MisdeedNil", spec := "misdeedNil", inPlace := ["(*internal/sync.Mutex).Lock", "internal/race.Disable", "sync/atomic.CompareAndSwapInt32", "internal/race.Enable", "internal/race.Acquire", "(*internal/sync.Mutex).lockSlow", "internal/sync.runtime_canSpin", "internal/sync.runtime_doSpin", "internal/sync.throw", "internal/sync.runtime_nanotime", "internal/sync.runtime_SemacquireMutex", "sync/atomic.AddInt32", "(*internal/sync.Mutex).Unlock", "internal/race.ReleaseMerge", "(*internal/sync.Mutex).unlockSlow", "internal/sync.fatal", "internal/sync.runtime_Semrelease", "internal/bytealg.Compare"], unfollowed := true, recurses := true, named := ["assent/digest.begin", "assent/digest.adds"], plainKeys := false, apart := false, laid := [("assent/digest.adds", laid_assent_digest_adds), ("assent/digest.begin", laid_assent_digest_begin)], narrowed := true }
def MisdeedNilUptoSaid : Prop := misdeedNilUptoRow.holds Tryz.pinned (OpenSpec.upto misdeedNilSpec)

/-- 'assentlaw11.MisdeedPools', WHERE WHAT IT READS IS OF BULK AT MOST 1048576: true; the input reads as it did. -/
def misdeedPoolsUptoRow : OpenClaim := { program := "ytofophjfgalhaaagreatdoor", sum := "5d28dcd084ccbef6034a7d31feb90c25368d49108e2583208d951b7cfa4f9308", func := "assent/assentlaw11.MisdeedPools", spec := "misdeedPools", inPlace := ["internal/bytealg.Compare", "(*internal/sync.Mutex).Lock", "internal/race.Disable", "sync/atomic.CompareAndSwapInt32", "internal/race.Enable", "internal/race.Acquire", "(*internal/sync.Mutex).lockSlow", "internal/sync.runtime_canSpin", "internal/sync.runtime_doSpin", "internal/sync.throw", "internal/sync.runtime_nanotime", "internal/sync.runtime_SemacquireMutex", "sync/atomic.AddInt32", "(*internal/sync.Mutex).Unlock", "internal/race.ReleaseMerge", "(*internal/sync.Mutex).unlockSlow", "internal/sync.fatal", "internal/sync.runtime_Semrelease"], unfollowed := true, recurses := true, named := ["assent/digest.begin", "assent/digest.adds", "assent/assentref02.adds"], plainKeys := false, apart := false, laid := [("assent/assentref02.adds", laid_assent_assentref02_adds), ("assent/digest.adds", laid_assent_digest_adds), ("assent/digest.begin", laid_assent_digest_begin)], narrowed := true }
def MisdeedPoolsUptoSaid : Prop := misdeedPoolsUptoRow.holds Tryz.pinned (OpenSpec.upto misdeedPoolsSpec)

/-- 'assentlaw11.MisdeedPicks', WHERE WHAT IT READS IS OF BULK AT MOST 1048576: true; the input reads as it did. -/
def misdeedPicksUptoRow : OpenClaim := { program := "ytofophjfgalhaaagreatdoor", sum := "5d28dcd084ccbef6034a7d31feb90c25368d49108e2583208d951b7cfa4f9308", func := "assent/assentlaw11.MisdeedPicks", spec := "misdeedPicks", inPlace := ["internal/bytealg.Compare", "(*internal/sync.Mutex).Lock", "internal/race.Disable", "sync/atomic.CompareAndSwapInt32", "internal/race.Enable", "internal/race.Acquire", "(*internal/sync.Mutex).lockSlow", "internal/sync.runtime_canSpin", "internal/sync.runtime_doSpin", "internal/sync.throw", "internal/sync.runtime_nanotime", "internal/sync.runtime_SemacquireMutex", "sync/atomic.AddInt32", "(*internal/sync.Mutex).Unlock", "internal/race.ReleaseMerge", "(*internal/sync.Mutex).unlockSlow", "internal/sync.fatal", "internal/sync.runtime_Semrelease"], unfollowed := true, recurses := true, named := ["assent/digest.begin", "assent/digest.adds", "assent/assentref02.adds"], plainKeys := false, apart := false, laid := [("assent/assentref02.adds", laid_assent_assentref02_adds), ("assent/digest.adds", laid_assent_digest_adds), ("assent/digest.begin", laid_assent_digest_begin)], narrowed := true }
def MisdeedPicksUptoSaid : Prop := misdeedPicksUptoRow.holds Tryz.pinned (OpenSpec.upto misdeedPicksSpec)

end Rows
end Go.Proofs.YtofophjfgalhaaaGreatDoor

/-
  NARROWER THAN 'FOR EVERY INPUT', by the rows' own cells (each row's printed sentence says how): SessionPings: laid · SessionBans: laid · SessionLate: laid · SessionAnswers: laid · SessionNobody: laid.
  DERIVED. THE GIVEN ROWS OF THIS SEAT. 5 by the template 'for every input the law returns true; each argument reads behind the call as it read before'; 0 by the template 'total and deterministic' (their statements: YtjbijcjcejfpcaaGreatDoorTotals.lean).
  GIVEN WITH THE SEED: the statements are not yours to turn. If you find one false, say at which input.
  Laid BY PROGRAM, IN A SANDBOX (cutbox-rows.mjs): the forced cells as the released guide's own fill.sh prints them over the translation a0c69ddfa522e065… (all of the seat's roots in one cut). By AI agents, Wed Nov 11 2026. No macro, syntax, notation, axiom, sorry.
-/
import Derived.Test.YtjbijcjcejfpcaaGreatDoorChecked
import GoSem.PinnedTables
import GoSem.Claim
import GoSem.ClaimJoined
import GoSem.ClaimMapViews
import Derived.JoinedTies
import Derived.KernelRfl
namespace Go.Proofs.YtjbijcjcejfpcaaGreatDoor
/- THE CELL 'sum', in the pinned program and in every row, IS THE sha256 OF THE DUMP (.gsa) THAT YtjbijcjcejfpcaaGreatDoorProg.lean LOADS. Nothing in Lean hashes anything: it is a label: what it is worth is what the hold of that sum in a sandbox is worth. -/
noncomputable def Tryz.pinned : Pinned := { name := "ytjbijcjcejfpcaagreatdoor", sum := "a0c69ddfa522e0651c105080b683e2324d10016c0c84167edd8f7e3c4ec6b1ca", checked := Tryz.checked }
namespace Rows
def none {H : Type} : Left H := { results := [], args := [] }

/- WHAT THE LISTED PACKAGE-LEVEL VARIABLES READ AS WHEN THE CALL BEGINS. Each datum BY PROGRAM (the guide's laid-datum.mjs) off the statement by which the dump's own 'gosem.cut.vars' lays the variable. In a bare row this is a premise. The card (YtjbijcjcejfpcaaGreatDoorCards.lean) ties it to the program's text. -/
def laid_unicode_utf8_acceptRanges {H : Type} : DataW H := .agg [.agg [.lit (.int .u8 128), .lit (.int .u8 191)], .agg [.lit (.int .u8 160), .lit (.int .u8 191)], .agg [.lit (.int .u8 128), .lit (.int .u8 159)], .agg [.lit (.int .u8 144), .lit (.int .u8 191)], .agg [.lit (.int .u8 128), .lit (.int .u8 143)], .agg [.lit (.int .u8 0), .lit (.int .u8 0)], .agg [.lit (.int .u8 0), .lit (.int .u8 0)], .agg [.lit (.int .u8 0), .lit (.int .u8 0)], .agg [.lit (.int .u8 0), .lit (.int .u8 0)], .agg [.lit (.int .u8 0), .lit (.int .u8 0)], .agg [.lit (.int .u8 0), .lit (.int .u8 0)], .agg [.lit (.int .u8 0), .lit (.int .u8 0)], .agg [.lit (.int .u8 0), .lit (.int .u8 0)], .agg [.lit (.int .u8 0), .lit (.int .u8 0)], .agg [.lit (.int .u8 0), .lit (.int .u8 0)], .agg [.lit (.int .u8 0), .lit (.int .u8 0)]]
def laid_sporran_sha_words {H : Type} : DataW H := .agg [.lit (.int .u32 1116352408), .lit (.int .u32 1899447441), .lit (.int .u32 3049323471), .lit (.int .u32 3921009573), .lit (.int .u32 961987163), .lit (.int .u32 1508970993), .lit (.int .u32 2453635748), .lit (.int .u32 2870763221), .lit (.int .u32 3624381080), .lit (.int .u32 310598401), .lit (.int .u32 607225278), .lit (.int .u32 1426881987), .lit (.int .u32 1925078388), .lit (.int .u32 2162078206), .lit (.int .u32 2614888103), .lit (.int .u32 3248222580), .lit (.int .u32 3835390401), .lit (.int .u32 4022224774), .lit (.int .u32 264347078), .lit (.int .u32 604807628), .lit (.int .u32 770255983), .lit (.int .u32 1249150122), .lit (.int .u32 1555081692), .lit (.int .u32 1996064986), .lit (.int .u32 2554220882), .lit (.int .u32 2821834349), .lit (.int .u32 2952996808), .lit (.int .u32 3210313671), .lit (.int .u32 3336571891), .lit (.int .u32 3584528711), .lit (.int .u32 113926993), .lit (.int .u32 338241895), .lit (.int .u32 666307205), .lit (.int .u32 773529912), .lit (.int .u32 1294757372), .lit (.int .u32 1396182291), .lit (.int .u32 1695183700), .lit (.int .u32 1986661051), .lit (.int .u32 2177026350), .lit (.int .u32 2456956037), .lit (.int .u32 2730485921), .lit (.int .u32 2820302411), .lit (.int .u32 3259730800), .lit (.int .u32 3345764771), .lit (.int .u32 3516065817), .lit (.int .u32 3600352804), .lit (.int .u32 4094571909), .lit (.int .u32 275423344), .lit (.int .u32 430227734), .lit (.int .u32 506948616), .lit (.int .u32 659060556), .lit (.int .u32 883997877), .lit (.int .u32 958139571), .lit (.int .u32 1322822218), .lit (.int .u32 1537002063), .lit (.int .u32 1747873779), .lit (.int .u32 1955562222), .lit (.int .u32 2024104815), .lit (.int .u32 2227730452), .lit (.int .u32 2361852424), .lit (.int .u32 2428436474), .lit (.int .u32 2756734187), .lit (.int .u32 3204031479), .lit (.int .u32 3329325298)]
def laid_sporran_sha_first {H : Type} : DataW H := .agg [.lit (.int .u32 1779033703), .lit (.int .u32 3144134277), .lit (.int .u32 1013904242), .lit (.int .u32 2773480762), .lit (.int .u32 1359893119), .lit (.int .u32 2600822924), .lit (.int .u32 528734635), .lit (.int .u32 1541459225)]
/-- One of Go's own tables, pinned by name: the form's constant. -/
def laid_unicode_utf8_first : DataW Unit := Go.Pinned.utf8First

/-- 'sporranlaw20.SessionPings': WHATEVER THE INPUT: true; the input reads as it did. -/
def sessionPingsSpec : ChangeSpec := { name := "sessionPings", fn := fun _ => fun
  | [d] => { results := [.lit (.bool true)], args := [d] }
  | _ => none }
def sessionPingsRow : OpenClaim := { program := "ytjbijcjcejfpcaagreatdoor", sum := "a0c69ddfa522e0651c105080b683e2324d10016c0c84167edd8f7e3c4ec6b1ca", func := "sporran/sporranlaw20.SessionPings", spec := "sessionPings", inPlace := ["sync/atomic.LoadUint32", "sync/atomic.LoadInt32", "sync/atomic.AddInt32", "sync/atomic.StoreUint32", "(*internal/sync.Mutex).Lock", "internal/race.Disable", "sync/atomic.CompareAndSwapInt32", "internal/race.Enable", "internal/race.Acquire", "(*internal/sync.Mutex).lockSlow", "internal/sync.runtime_canSpin", "internal/sync.runtime_doSpin", "internal/sync.throw", "internal/sync.runtime_nanotime", "internal/sync.runtime_SemacquireMutex", "(*internal/sync.Mutex).Unlock", "internal/race.ReleaseMerge", "(*internal/sync.Mutex).unlockSlow", "internal/sync.fatal", "internal/sync.runtime_Semrelease"], unfollowed := true, recurses := true, named := ["unicode/utf8.first", "unicode/utf8.acceptRanges", "sporran/sha.first", "sporran/sha.words"], apart := false, laid := [("unicode/utf8.acceptRanges", laid_unicode_utf8_acceptRanges), ("sporran/sha.words", laid_sporran_sha_words), ("sporran/sha.first", laid_sporran_sha_first), ("unicode/utf8.first", laid_unicode_utf8_first)] }
def SessionPingsSaid : Prop := sessionPingsRow.holds Tryz.pinned (OpenSpec.ofChange sessionPingsSpec)

/-- ITS FALSE NEIGHBOUR: 'it returns false'. Refute it at one input. -/
def sessionPingsWrong : ChangeSpec := { name := "sessionPings", fn := fun _ => fun
  | [d] => { results := [.lit (.bool false)], args := [d] }
  | _ => none }
def SessionPingsWrongFalsely : Prop := sessionPingsRow.holds Tryz.pinned (OpenSpec.ofChange sessionPingsWrong)

/-- 'sporranlaw20.SessionBans': WHATEVER THE INPUT: true; the input reads as it did. -/
def sessionBansSpec : ChangeSpec := { name := "sessionBans", fn := fun _ => fun
  | [d1, d2, d3] => { results := [.lit (.bool true)], args := [d1, d2, d3] }
  | _ => none }
def sessionBansRow : OpenClaim := { program := "ytjbijcjcejfpcaagreatdoor", sum := "a0c69ddfa522e0651c105080b683e2324d10016c0c84167edd8f7e3c4ec6b1ca", func := "sporran/sporranlaw20.SessionBans", spec := "sessionBans", inPlace := ["sync/atomic.LoadUint32", "sync/atomic.LoadInt32", "sync/atomic.AddInt32", "sync/atomic.StoreUint32", "(*internal/sync.Mutex).Lock", "internal/race.Disable", "sync/atomic.CompareAndSwapInt32", "internal/race.Enable", "internal/race.Acquire", "(*internal/sync.Mutex).lockSlow", "internal/sync.runtime_canSpin", "internal/sync.runtime_doSpin", "internal/sync.throw", "internal/sync.runtime_nanotime", "internal/sync.runtime_SemacquireMutex", "(*internal/sync.Mutex).Unlock", "internal/race.ReleaseMerge", "(*internal/sync.Mutex).unlockSlow", "internal/sync.fatal", "internal/sync.runtime_Semrelease"], unfollowed := true, recurses := true, named := ["unicode/utf8.first", "unicode/utf8.acceptRanges", "sporran/sha.first", "sporran/sha.words"], apart := false, laid := [("unicode/utf8.acceptRanges", laid_unicode_utf8_acceptRanges), ("sporran/sha.words", laid_sporran_sha_words), ("sporran/sha.first", laid_sporran_sha_first), ("unicode/utf8.first", laid_unicode_utf8_first)] }
def SessionBansSaid : Prop := sessionBansRow.holds Tryz.pinned (OpenSpec.ofChange sessionBansSpec)

/-- ITS FALSE NEIGHBOUR: 'it returns false'. Refute it at one input. -/
def sessionBansWrong : ChangeSpec := { name := "sessionBans", fn := fun _ => fun
  | [d1, d2, d3] => { results := [.lit (.bool false)], args := [d1, d2, d3] }
  | _ => none }
def SessionBansWrongFalsely : Prop := sessionBansRow.holds Tryz.pinned (OpenSpec.ofChange sessionBansWrong)

/-- 'sporranlaw20.SessionLate': WHATEVER THE INPUT: true; the input reads as it did. -/
def sessionLateSpec : ChangeSpec := { name := "sessionLate", fn := fun _ => fun
  | [d1, d2, d3] => { results := [.lit (.bool true)], args := [d1, d2, d3] }
  | _ => none }
def sessionLateRow : OpenClaim := { program := "ytjbijcjcejfpcaagreatdoor", sum := "a0c69ddfa522e0651c105080b683e2324d10016c0c84167edd8f7e3c4ec6b1ca", func := "sporran/sporranlaw20.SessionLate", spec := "sessionLate", inPlace := ["sync/atomic.LoadUint32", "sync/atomic.LoadInt32", "sync/atomic.AddInt32", "sync/atomic.StoreUint32", "(*internal/sync.Mutex).Lock", "internal/race.Disable", "sync/atomic.CompareAndSwapInt32", "internal/race.Enable", "internal/race.Acquire", "(*internal/sync.Mutex).lockSlow", "internal/sync.runtime_canSpin", "internal/sync.runtime_doSpin", "internal/sync.throw", "internal/sync.runtime_nanotime", "internal/sync.runtime_SemacquireMutex", "(*internal/sync.Mutex).Unlock", "internal/race.ReleaseMerge", "(*internal/sync.Mutex).unlockSlow", "internal/sync.fatal", "internal/sync.runtime_Semrelease"], unfollowed := true, recurses := true, named := ["unicode/utf8.first", "unicode/utf8.acceptRanges", "sporran/sha.first", "sporran/sha.words"], apart := false, laid := [("unicode/utf8.acceptRanges", laid_unicode_utf8_acceptRanges), ("sporran/sha.words", laid_sporran_sha_words), ("sporran/sha.first", laid_sporran_sha_first), ("unicode/utf8.first", laid_unicode_utf8_first)] }
def SessionLateSaid : Prop := sessionLateRow.holds Tryz.pinned (OpenSpec.ofChange sessionLateSpec)

/-- ITS FALSE NEIGHBOUR: 'it returns false'. Refute it at one input. -/
def sessionLateWrong : ChangeSpec := { name := "sessionLate", fn := fun _ => fun
  | [d1, d2, d3] => { results := [.lit (.bool false)], args := [d1, d2, d3] }
  | _ => none }
def SessionLateWrongFalsely : Prop := sessionLateRow.holds Tryz.pinned (OpenSpec.ofChange sessionLateWrong)

/-- 'sporranlaw20.SessionAnswers': WHATEVER THE INPUT: true; the input reads as it did. -/
def sessionAnswersSpec : ChangeSpec := { name := "sessionAnswers", fn := fun _ => fun
  | [d] => { results := [.lit (.bool true)], args := [d] }
  | _ => none }
def sessionAnswersRow : OpenClaim := { program := "ytjbijcjcejfpcaagreatdoor", sum := "a0c69ddfa522e0651c105080b683e2324d10016c0c84167edd8f7e3c4ec6b1ca", func := "sporran/sporranlaw20.SessionAnswers", spec := "sessionAnswers", inPlace := ["sync/atomic.LoadUint32", "sync/atomic.LoadInt32", "sync/atomic.AddInt32", "sync/atomic.StoreUint32", "(*internal/sync.Mutex).Lock", "internal/race.Disable", "sync/atomic.CompareAndSwapInt32", "internal/race.Enable", "internal/race.Acquire", "(*internal/sync.Mutex).lockSlow", "internal/sync.runtime_canSpin", "internal/sync.runtime_doSpin", "internal/sync.throw", "internal/sync.runtime_nanotime", "internal/sync.runtime_SemacquireMutex", "(*internal/sync.Mutex).Unlock", "internal/race.ReleaseMerge", "(*internal/sync.Mutex).unlockSlow", "internal/sync.fatal", "internal/sync.runtime_Semrelease"], unfollowed := true, recurses := true, named := ["unicode/utf8.first", "unicode/utf8.acceptRanges", "sporran/sha.first", "sporran/sha.words"], apart := false, laid := [("unicode/utf8.acceptRanges", laid_unicode_utf8_acceptRanges), ("sporran/sha.words", laid_sporran_sha_words), ("sporran/sha.first", laid_sporran_sha_first), ("unicode/utf8.first", laid_unicode_utf8_first)] }
def SessionAnswersSaid : Prop := sessionAnswersRow.holds Tryz.pinned (OpenSpec.ofChange sessionAnswersSpec)

/-- ITS FALSE NEIGHBOUR: 'it returns false'. Refute it at one input. -/
def sessionAnswersWrong : ChangeSpec := { name := "sessionAnswers", fn := fun _ => fun
  | [d] => { results := [.lit (.bool false)], args := [d] }
  | _ => none }
def SessionAnswersWrongFalsely : Prop := sessionAnswersRow.holds Tryz.pinned (OpenSpec.ofChange sessionAnswersWrong)

/-- 'sporranlaw20.SessionNobody': WHATEVER THE INPUT: true; the input reads as it did. -/
def sessionNobodySpec : ChangeSpec := { name := "sessionNobody", fn := fun _ => fun
  | [d] => { results := [.lit (.bool true)], args := [d] }
  | _ => none }
def sessionNobodyRow : OpenClaim := { program := "ytjbijcjcejfpcaagreatdoor", sum := "a0c69ddfa522e0651c105080b683e2324d10016c0c84167edd8f7e3c4ec6b1ca", func := "sporran/sporranlaw20.SessionNobody", spec := "sessionNobody", inPlace := ["sync/atomic.LoadUint32", "sync/atomic.LoadInt32", "sync/atomic.AddInt32", "sync/atomic.StoreUint32", "(*internal/sync.Mutex).Lock", "internal/race.Disable", "sync/atomic.CompareAndSwapInt32", "internal/race.Enable", "internal/race.Acquire", "(*internal/sync.Mutex).lockSlow", "internal/sync.runtime_canSpin", "internal/sync.runtime_doSpin", "internal/sync.throw", "internal/sync.runtime_nanotime", "internal/sync.runtime_SemacquireMutex", "(*internal/sync.Mutex).Unlock", "internal/race.ReleaseMerge", "(*internal/sync.Mutex).unlockSlow", "internal/sync.fatal", "internal/sync.runtime_Semrelease"], unfollowed := true, recurses := true, named := ["unicode/utf8.first", "unicode/utf8.acceptRanges", "sporran/sha.first", "sporran/sha.words"], apart := false, laid := [("unicode/utf8.acceptRanges", laid_unicode_utf8_acceptRanges), ("sporran/sha.words", laid_sporran_sha_words), ("sporran/sha.first", laid_sporran_sha_first), ("unicode/utf8.first", laid_unicode_utf8_first)] }
def SessionNobodySaid : Prop := sessionNobodyRow.holds Tryz.pinned (OpenSpec.ofChange sessionNobodySpec)

/-- ITS FALSE NEIGHBOUR: 'it returns false'. Refute it at one input. -/
def sessionNobodyWrong : ChangeSpec := { name := "sessionNobody", fn := fun _ => fun
  | [d] => { results := [.lit (.bool false)], args := [d] }
  | _ => none }
def SessionNobodyWrongFalsely : Prop := sessionNobodyRow.holds Tryz.pinned (OpenSpec.ofChange sessionNobodyWrong)

/- THE SECOND FORM. 'bulk': how many values and letters a reading holds, each counted each time it is reached (what is shared counts as often as it is met; a slice's spare places count too). A statement '..UptoSaid' is the law's where the arguments, and the package variables that the reading takes, are together of bulk at most 1048576: NARROWER than '..Said'. Prove '..Said' where nothing that the law and all that it calls make is longer than what came in: it says more and counts as full. Else prove '..UptoSaid'. A law counts once. -/
mutual
def uptoBulk {H : Type} : DataW H → Nat
  | .lit (.string bytes) => bytes.length + 1
  | .lit _ => 1
  | .nil => 1
  | .ptr d => uptoBulk d + 1
  | .slice elems spare => uptoBulkAll elems + uptoBulkAll spare + 1
  | .agg parts => uptoBulkAll parts + 1
  | .iface _ d => uptoBulk d + 1
  | .map entries => uptoBulkEntries entries + 1
  | .held _ => 1
def uptoBulkAll {H : Type} : List (DataW H) → Nat
  | [] => 0
  | d :: r => uptoBulk d + uptoBulkAll r
def uptoBulkEntries {H : Type} : List (Lit × DataW H) → Nat
  | [] => 0
  | x :: r => uptoBulkEntry x + uptoBulkEntries r
def uptoBulkEntry {H : Type} : Lit × DataW H → Nat
  | (.string bytes, d) => bytes.length + uptoBulk d + 1
  | (_, d) => uptoBulk d + 1
 end
def uptoSmall : (H : Type) → List (DataW H) → Bool := fun _ ds => decide (uptoBulkAll ds ≤ 1048576)
def OpenSpec.upto (s : _root_.Go.ChangeSpec) : _root_.Go.OpenSpec := { _root_.Go.OpenSpec.ofChange s with cond := some uptoSmall }

/-- 'sporranlaw20.SessionPings', WHERE WHAT IT READS IS OF BULK AT MOST 1048576: true; the input reads as it did. -/
def sessionPingsUptoRow : OpenClaim := { program := "ytjbijcjcejfpcaagreatdoor", sum := "a0c69ddfa522e0651c105080b683e2324d10016c0c84167edd8f7e3c4ec6b1ca", func := "sporran/sporranlaw20.SessionPings", spec := "sessionPings", inPlace := ["sync/atomic.LoadUint32", "sync/atomic.LoadInt32", "sync/atomic.AddInt32", "sync/atomic.StoreUint32", "(*internal/sync.Mutex).Lock", "internal/race.Disable", "sync/atomic.CompareAndSwapInt32", "internal/race.Enable", "internal/race.Acquire", "(*internal/sync.Mutex).lockSlow", "internal/sync.runtime_canSpin", "internal/sync.runtime_doSpin", "internal/sync.throw", "internal/sync.runtime_nanotime", "internal/sync.runtime_SemacquireMutex", "(*internal/sync.Mutex).Unlock", "internal/race.ReleaseMerge", "(*internal/sync.Mutex).unlockSlow", "internal/sync.fatal", "internal/sync.runtime_Semrelease"], unfollowed := true, recurses := true, named := ["unicode/utf8.first", "unicode/utf8.acceptRanges", "sporran/sha.first", "sporran/sha.words"], apart := false, laid := [("unicode/utf8.acceptRanges", laid_unicode_utf8_acceptRanges), ("sporran/sha.words", laid_sporran_sha_words), ("sporran/sha.first", laid_sporran_sha_first), ("unicode/utf8.first", laid_unicode_utf8_first)], narrowed := true }
def SessionPingsUptoSaid : Prop := sessionPingsUptoRow.holds Tryz.pinned (OpenSpec.upto sessionPingsSpec)

/-- 'sporranlaw20.SessionBans', WHERE WHAT IT READS IS OF BULK AT MOST 1048576: true; the input reads as it did. -/
def sessionBansUptoRow : OpenClaim := { program := "ytjbijcjcejfpcaagreatdoor", sum := "a0c69ddfa522e0651c105080b683e2324d10016c0c84167edd8f7e3c4ec6b1ca", func := "sporran/sporranlaw20.SessionBans", spec := "sessionBans", inPlace := ["sync/atomic.LoadUint32", "sync/atomic.LoadInt32", "sync/atomic.AddInt32", "sync/atomic.StoreUint32", "(*internal/sync.Mutex).Lock", "internal/race.Disable", "sync/atomic.CompareAndSwapInt32", "internal/race.Enable", "internal/race.Acquire", "(*internal/sync.Mutex).lockSlow", "internal/sync.runtime_canSpin", "internal/sync.runtime_doSpin", "internal/sync.throw", "internal/sync.runtime_nanotime", "internal/sync.runtime_SemacquireMutex", "(*internal/sync.Mutex).Unlock", "internal/race.ReleaseMerge", "(*internal/sync.Mutex).unlockSlow", "internal/sync.fatal", "internal/sync.runtime_Semrelease"], unfollowed := true, recurses := true, named := ["unicode/utf8.first", "unicode/utf8.acceptRanges", "sporran/sha.first", "sporran/sha.words"], apart := false, laid := [("unicode/utf8.acceptRanges", laid_unicode_utf8_acceptRanges), ("sporran/sha.words", laid_sporran_sha_words), ("sporran/sha.first", laid_sporran_sha_first), ("unicode/utf8.first", laid_unicode_utf8_first)], narrowed := true }
def SessionBansUptoSaid : Prop := sessionBansUptoRow.holds Tryz.pinned (OpenSpec.upto sessionBansSpec)

/-- 'sporranlaw20.SessionLate', WHERE WHAT IT READS IS OF BULK AT MOST 1048576: true; the input reads as it did. -/
def sessionLateUptoRow : OpenClaim := { program := "ytjbijcjcejfpcaagreatdoor", sum := "a0c69ddfa522e0651c105080b683e2324d10016c0c84167edd8f7e3c4ec6b1ca", func := "sporran/sporranlaw20.SessionLate", spec := "sessionLate", inPlace := ["sync/atomic.LoadUint32", "sync/atomic.LoadInt32", "sync/atomic.AddInt32", "sync/atomic.StoreUint32", "(*internal/sync.Mutex).Lock", "internal/race.Disable", "sync/atomic.CompareAndSwapInt32", "internal/race.Enable", "internal/race.Acquire", "(*internal/sync.Mutex).lockSlow", "internal/sync.runtime_canSpin", "internal/sync.runtime_doSpin", "internal/sync.throw", "internal/sync.runtime_nanotime", "internal/sync.runtime_SemacquireMutex", "(*internal/sync.Mutex).Unlock", "internal/race.ReleaseMerge", "(*internal/sync.Mutex).unlockSlow", "internal/sync.fatal", "internal/sync.runtime_Semrelease"], unfollowed := true, recurses := true, named := ["unicode/utf8.first", "unicode/utf8.acceptRanges", "sporran/sha.first", "sporran/sha.words"], apart := false, laid := [("unicode/utf8.acceptRanges", laid_unicode_utf8_acceptRanges), ("sporran/sha.words", laid_sporran_sha_words), ("sporran/sha.first", laid_sporran_sha_first), ("unicode/utf8.first", laid_unicode_utf8_first)], narrowed := true }
def SessionLateUptoSaid : Prop := sessionLateUptoRow.holds Tryz.pinned (OpenSpec.upto sessionLateSpec)

/-- 'sporranlaw20.SessionAnswers', WHERE WHAT IT READS IS OF BULK AT MOST 1048576: true; the input reads as it did. -/
def sessionAnswersUptoRow : OpenClaim := { program := "ytjbijcjcejfpcaagreatdoor", sum := "a0c69ddfa522e0651c105080b683e2324d10016c0c84167edd8f7e3c4ec6b1ca", func := "sporran/sporranlaw20.SessionAnswers", spec := "sessionAnswers", inPlace := ["sync/atomic.LoadUint32", "sync/atomic.LoadInt32", "sync/atomic.AddInt32", "sync/atomic.StoreUint32", "(*internal/sync.Mutex).Lock", "internal/race.Disable", "sync/atomic.CompareAndSwapInt32", "internal/race.Enable", "internal/race.Acquire", "(*internal/sync.Mutex).lockSlow", "internal/sync.runtime_canSpin", "internal/sync.runtime_doSpin", "internal/sync.throw", "internal/sync.runtime_nanotime", "internal/sync.runtime_SemacquireMutex", "(*internal/sync.Mutex).Unlock", "internal/race.ReleaseMerge", "(*internal/sync.Mutex).unlockSlow", "internal/sync.fatal", "internal/sync.runtime_Semrelease"], unfollowed := true, recurses := true, named := ["unicode/utf8.first", "unicode/utf8.acceptRanges", "sporran/sha.first", "sporran/sha.words"], apart := false, laid := [("unicode/utf8.acceptRanges", laid_unicode_utf8_acceptRanges), ("sporran/sha.words", laid_sporran_sha_words), ("sporran/sha.first", laid_sporran_sha_first), ("unicode/utf8.first", laid_unicode_utf8_first)], narrowed := true }
def SessionAnswersUptoSaid : Prop := sessionAnswersUptoRow.holds Tryz.pinned (OpenSpec.upto sessionAnswersSpec)

/-- 'sporranlaw20.SessionNobody', WHERE WHAT IT READS IS OF BULK AT MOST 1048576: true; the input reads as it did. -/
def sessionNobodyUptoRow : OpenClaim := { program := "ytjbijcjcejfpcaagreatdoor", sum := "a0c69ddfa522e0651c105080b683e2324d10016c0c84167edd8f7e3c4ec6b1ca", func := "sporran/sporranlaw20.SessionNobody", spec := "sessionNobody", inPlace := ["sync/atomic.LoadUint32", "sync/atomic.LoadInt32", "sync/atomic.AddInt32", "sync/atomic.StoreUint32", "(*internal/sync.Mutex).Lock", "internal/race.Disable", "sync/atomic.CompareAndSwapInt32", "internal/race.Enable", "internal/race.Acquire", "(*internal/sync.Mutex).lockSlow", "internal/sync.runtime_canSpin", "internal/sync.runtime_doSpin", "internal/sync.throw", "internal/sync.runtime_nanotime", "internal/sync.runtime_SemacquireMutex", "(*internal/sync.Mutex).Unlock", "internal/race.ReleaseMerge", "(*internal/sync.Mutex).unlockSlow", "internal/sync.fatal", "internal/sync.runtime_Semrelease"], unfollowed := true, recurses := true, named := ["unicode/utf8.first", "unicode/utf8.acceptRanges", "sporran/sha.first", "sporran/sha.words"], apart := false, laid := [("unicode/utf8.acceptRanges", laid_unicode_utf8_acceptRanges), ("sporran/sha.words", laid_sporran_sha_words), ("sporran/sha.first", laid_sporran_sha_first), ("unicode/utf8.first", laid_unicode_utf8_first)], narrowed := true }
def SessionNobodyUptoSaid : Prop := sessionNobodyUptoRow.holds Tryz.pinned (OpenSpec.upto sessionNobodySpec)

end Rows
end Go.Proofs.YtjbijcjcejfpcaaGreatDoor

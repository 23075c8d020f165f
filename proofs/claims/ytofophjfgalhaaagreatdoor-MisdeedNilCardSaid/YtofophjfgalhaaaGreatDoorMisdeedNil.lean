/- The Go function of this statement, assentlaw11.MisdeedNil, returns true at every state and every evidence; its arguments read as they did (the card's tie lays the listed package variables; no other condition). -/
import Derived.Test.YtofophjfgalhaaaGreatDoorRows
import Derived.Test.YtofophjfgalhaaaGreatDoorCards
import Derived.Test.YtofophjfgalhaaaGreatDoorTie
import Derived.Test.YtofophjfgalhaaaGreatDoorF8
import Derived.Test.YtofophjfgalhaaaGreatDoorD23
import Derived.WalkKit
import Derived.ProofKit
import Derived.LaidMore
import Derived.OpenShut
import Derived.Stop.Joined
import Derived.SevenTiedAt
namespace Go.Proofs.YtofophjfgalhaaaGreatDoor.misdeedNil
open Go.ChangeShapes Go.WideShapes Go.ChangeAt Go.RowKit Go.Proofs.YtofophjfgalhaaaGreatDoor.D
set_option linter.unusedVariables false
set_option maxRecDepth 100000

theorem own : ownKnob Tryz.prog.godebug = none := by kernel_rfl
theorem deep37 : deepOk tb 6 37 = true := by kernel_rfl
theorem deep52 : deepOk tb 6 52 = true := by kernel_rfl
def laid2 : List (String × DataW Unit) := [("assent/digest.adds", Rows.laid_assent_digest_adds), ("assent/digest.begin", Rows.laid_assent_digest_begin)]
theorem door_met (os : Os) (args : Array Value) : laidMetH Tryz.prog laid2 ((World.doorLaid Tryz.prog 4000 os).forCall (fun _ _ => 0) ⟨#[], args, []⟩).memory :=
  laidMetH_of_parts3 (fuel := 8) (laidMet_of_run' 8 (by kernel_rfl) (by kernel_rfl)) (by kernel_rfl) (by kernel_rfl)
theorem shape37 {av : AV} (h : wfA tb 6 37 av) : ∃ (s43 : ByteArray) (x94 : Int) (x96 : Int) (x98 : Int) (x100 : Int) (x102 : Int) (x104 : Int) (x106 : Int) (x108 : Int) (x110 : Int) (x112 : Int) (x114 : Int) (x116 : Int) (x118 : Int) (x120 : Int) (l122 : List Int) (a131 : Option Addr) (n132 : Nat) (c133 : Nat) (a140 : Option Addr) (n141 : Nat) (c142 : Nat) (a143 : Option Addr) (n144 : Nat) (c145 : Nat) (a146 : Option Addr) (n147 : Nat) (c148 : Nat) (a167 : Option Addr) (n168 : Nat) (c169 : Nat) (a170 : Option Addr) (n171 : Nat) (c172 : Nat) (x173 : Int) (x175 : Int), av = (.agg (.cons (.v (.string s43)) (.cons (.agg (.cons (.v (.int .u64 x94)) (.cons (.v (.int .i64 x96)) (.cons (.v (.int .u64 x98)) (.cons (.v (.int .u64 x100)) (.cons (.v (.int .u64 x102)) (.cons (.v (.int .i64 x104)) (.cons (.v (.int .u64 x106)) (.cons (.v (.int .u64 x108)) (.cons (.v (.int .u64 x110)) (.cons (.v (.int .u64 x112)) (.cons (.v (.int .u64 x114)) (.cons (.v (.int .u64 x116)) .nil))))))))))))) (.cons (.v (.int .u64 x118)) (.cons (.v (.int .u64 x120)) (.cons (.ints .u8 32 l122) (.cons (.agg (.cons (.v (.slice a131 n132 c133)) .nil)) (.cons (.agg (.cons (.v (.slice a140 n141 c142)) .nil)) (.cons (.v (.slice a143 n144 c145)) (.cons (.v (.slice a146 n147 c148)) (.cons (.agg (.cons (.v (.slice a167 n168 c169)) (.cons (.v (.slice a170 n171 c172)) (.cons (.v (.int .u64 x173)) (.cons (.v (.int .u64 x175)) .nil))))) .nil))))))))))) ∧ ((Lit.int .u64 x94).wf = true) ∧ ((Lit.int .i64 x96).wf = true) ∧ ((Lit.int .u64 x98).wf = true) ∧ ((Lit.int .u64 x100).wf = true) ∧ ((Lit.int .u64 x102).wf = true) ∧ ((Lit.int .i64 x104).wf = true) ∧ ((Lit.int .u64 x106).wf = true) ∧ ((Lit.int .u64 x108).wf = true) ∧ ((Lit.int .u64 x110).wf = true) ∧ ((Lit.int .u64 x112).wf = true) ∧ ((Lit.int .u64 x114).wf = true) ∧ ((Lit.int .u64 x116).wf = true) ∧ ((Lit.int .u64 x118).wf = true) ∧ ((Lit.int .u64 x120).wf = true) ∧ (l122.length = 32 ∧ ∀ x ∈ l122, (Lit.int .u8 x).wf = true) ∧ ((Lit.int .u64 x173).wf = true) ∧ ((Lit.int .u64 x175).wf = true) := by
  unfold wfA at h
  obtain ⟨l1, rfl, h2⟩ := (h : ∃ l, av = .agg l ∧ wfF tb 5 [(0, 1, 9), (1, 12, 24), (13, 1, 22), (14, 1, 22), (15, 32, 26), (47, 1, 29), (48, 1, 29), (49, 1, 30), (50, 1, 31), (51, 4, 35)] l)
  unfold wfF at h2
  obtain ⟨y3, l4, rfl, h5, h6⟩ := h2
  unfold wfF at h6
  obtain ⟨y7, l8, rfl, h9, h10⟩ := h6
  unfold wfF at h10
  obtain ⟨y11, l12, rfl, h13, h14⟩ := h10
  unfold wfF at h14
  obtain ⟨y15, l16, rfl, h17, h18⟩ := h14
  unfold wfF at h18
  obtain ⟨y19, l20, rfl, h21, h22⟩ := h18
  unfold wfF at h22
  obtain ⟨y23, l24, rfl, h25, h26⟩ := h22
  unfold wfF at h26
  obtain ⟨y27, l28, rfl, h29, h30⟩ := h26
  unfold wfF at h30
  obtain ⟨y31, l32, rfl, h33, h34⟩ := h30
  unfold wfF at h34
  obtain ⟨y35, l36, rfl, h37, h38⟩ := h34
  unfold wfF at h38
  obtain ⟨y39, l40, rfl, h41, h42⟩ := h38
  unfold wfF at h42
  subst h42
  unfold wfA at h5
  obtain ⟨s43, rfl⟩ := (h5 : ∃ s, y3 = .v (.string s))
  unfold wfA at h9
  obtain ⟨l44, rfl, h45⟩ := (h9 : ∃ l, y7 = .agg l ∧ wfF tb 4 [(0, 1, 22), (1, 1, 3), (2, 1, 22), (3, 1, 22), (4, 1, 22), (5, 1, 3), (6, 1, 22), (7, 1, 22), (8, 1, 22), (9, 1, 22), (10, 1, 22), (11, 1, 22)] l)
  unfold wfF at h45
  obtain ⟨y46, l47, rfl, h48, h49⟩ := h45
  unfold wfF at h49
  obtain ⟨y50, l51, rfl, h52, h53⟩ := h49
  unfold wfF at h53
  obtain ⟨y54, l55, rfl, h56, h57⟩ := h53
  unfold wfF at h57
  obtain ⟨y58, l59, rfl, h60, h61⟩ := h57
  unfold wfF at h61
  obtain ⟨y62, l63, rfl, h64, h65⟩ := h61
  unfold wfF at h65
  obtain ⟨y66, l67, rfl, h68, h69⟩ := h65
  unfold wfF at h69
  obtain ⟨y70, l71, rfl, h72, h73⟩ := h69
  unfold wfF at h73
  obtain ⟨y74, l75, rfl, h76, h77⟩ := h73
  unfold wfF at h77
  obtain ⟨y78, l79, rfl, h80, h81⟩ := h77
  unfold wfF at h81
  obtain ⟨y82, l83, rfl, h84, h85⟩ := h81
  unfold wfF at h85
  obtain ⟨y86, l87, rfl, h88, h89⟩ := h85
  unfold wfF at h89
  obtain ⟨y90, l91, rfl, h92, h93⟩ := h89
  unfold wfF at h93
  subst h93
  unfold wfA at h48
  obtain ⟨x94, rfl, w95⟩ := (h48 : ∃ x, y46 = .v (.int .u64 x) ∧ (Lit.int .u64 x).wf = true)
  unfold wfA at h52
  obtain ⟨x96, rfl, w97⟩ := (h52 : ∃ x, y50 = .v (.int .i64 x) ∧ (Lit.int .i64 x).wf = true)
  unfold wfA at h56
  obtain ⟨x98, rfl, w99⟩ := (h56 : ∃ x, y54 = .v (.int .u64 x) ∧ (Lit.int .u64 x).wf = true)
  unfold wfA at h60
  obtain ⟨x100, rfl, w101⟩ := (h60 : ∃ x, y58 = .v (.int .u64 x) ∧ (Lit.int .u64 x).wf = true)
  unfold wfA at h64
  obtain ⟨x102, rfl, w103⟩ := (h64 : ∃ x, y62 = .v (.int .u64 x) ∧ (Lit.int .u64 x).wf = true)
  unfold wfA at h68
  obtain ⟨x104, rfl, w105⟩ := (h68 : ∃ x, y66 = .v (.int .i64 x) ∧ (Lit.int .i64 x).wf = true)
  unfold wfA at h72
  obtain ⟨x106, rfl, w107⟩ := (h72 : ∃ x, y70 = .v (.int .u64 x) ∧ (Lit.int .u64 x).wf = true)
  unfold wfA at h76
  obtain ⟨x108, rfl, w109⟩ := (h76 : ∃ x, y74 = .v (.int .u64 x) ∧ (Lit.int .u64 x).wf = true)
  unfold wfA at h80
  obtain ⟨x110, rfl, w111⟩ := (h80 : ∃ x, y78 = .v (.int .u64 x) ∧ (Lit.int .u64 x).wf = true)
  unfold wfA at h84
  obtain ⟨x112, rfl, w113⟩ := (h84 : ∃ x, y82 = .v (.int .u64 x) ∧ (Lit.int .u64 x).wf = true)
  unfold wfA at h88
  obtain ⟨x114, rfl, w115⟩ := (h88 : ∃ x, y86 = .v (.int .u64 x) ∧ (Lit.int .u64 x).wf = true)
  unfold wfA at h92
  obtain ⟨x116, rfl, w117⟩ := (h92 : ∃ x, y90 = .v (.int .u64 x) ∧ (Lit.int .u64 x).wf = true)
  unfold wfA at h13
  obtain ⟨x118, rfl, w119⟩ := (h13 : ∃ x, y11 = .v (.int .u64 x) ∧ (Lit.int .u64 x).wf = true)
  unfold wfA at h17
  obtain ⟨x120, rfl, w121⟩ := (h17 : ∃ x, y15 = .v (.int .u64 x) ∧ (Lit.int .u64 x).wf = true)
  unfold wfA at h21
  obtain ⟨l122, rfl, w123⟩ := (h21 : ∃ xs : List Int, y19 = .ints .u8 32 xs ∧ xs.length = 32 ∧ ∀ x ∈ xs, (Lit.int .u8 x).wf = true)
  unfold wfA at h25
  obtain ⟨l125, rfl, h126⟩ := (h25 : ∃ l, y23 = .agg l ∧ wfF tb 4 [(0, 1, 27)] l)
  unfold wfF at h126
  obtain ⟨y127, l128, rfl, h129, h130⟩ := h126
  unfold wfF at h130
  subst h130
  unfold wfA at h129
  obtain ⟨a131, n132, c133, rfl⟩ := (h129 : ∃ a n c, y127 = .v (.slice a n c))
  unfold wfA at h29
  obtain ⟨l134, rfl, h135⟩ := (h29 : ∃ l, y27 = .agg l ∧ wfF tb 4 [(0, 1, 27)] l)
  unfold wfF at h135
  obtain ⟨y136, l137, rfl, h138, h139⟩ := h135
  unfold wfF at h139
  subst h139
  unfold wfA at h138
  obtain ⟨a140, n141, c142, rfl⟩ := (h138 : ∃ a n c, y136 = .v (.slice a n c))
  unfold wfA at h33
  obtain ⟨a143, n144, c145, rfl⟩ := (h33 : ∃ a n c, y31 = .v (.slice a n c))
  unfold wfA at h37
  obtain ⟨a146, n147, c148, rfl⟩ := (h37 : ∃ a n c, y35 = .v (.slice a n c))
  unfold wfA at h41
  obtain ⟨l149, rfl, h150⟩ := (h41 : ∃ l, y39 = .agg l ∧ wfF tb 4 [(0, 1, 32), (1, 1, 33), (2, 1, 22), (3, 1, 22)] l)
  unfold wfF at h150
  obtain ⟨y151, l152, rfl, h153, h154⟩ := h150
  unfold wfF at h154
  obtain ⟨y155, l156, rfl, h157, h158⟩ := h154
  unfold wfF at h158
  obtain ⟨y159, l160, rfl, h161, h162⟩ := h158
  unfold wfF at h162
  obtain ⟨y163, l164, rfl, h165, h166⟩ := h162
  unfold wfF at h166
  subst h166
  unfold wfA at h153
  obtain ⟨a167, n168, c169, rfl⟩ := (h153 : ∃ a n c, y151 = .v (.slice a n c))
  unfold wfA at h157
  obtain ⟨a170, n171, c172, rfl⟩ := (h157 : ∃ a n c, y155 = .v (.slice a n c))
  unfold wfA at h161
  obtain ⟨x173, rfl, w174⟩ := (h161 : ∃ x, y159 = .v (.int .u64 x) ∧ (Lit.int .u64 x).wf = true)
  unfold wfA at h165
  obtain ⟨x175, rfl, w176⟩ := (h165 : ∃ x, y163 = .v (.int .u64 x) ∧ (Lit.int .u64 x).wf = true)
  exact ⟨s43, x94, x96, x98, x100, x102, x104, x106, x108, x110, x112, x114, x116, x118, x120, l122, a131, n132, c133, a140, n141, c142, a143, n144, c145, a146, n147, c148, a167, n168, c169, a170, n171, c172, x173, x175, rfl, w95, w97, w99, w101, w103, w105, w107, w109, w111, w113, w115, w117, w119, w121, w123, w174, w176⟩

theorem shape52 {av : AV} (h : wfA tb 6 52 av) : ∃ (x41 : Int) (x43 : Int) (x45 : Int) (l47 : List Int) (x50 : Int) (x52 : Int) (l54 : List Int) (x87 : Int) (x89 : Int) (x91 : Int) (l93 : List Int) (x96 : Int) (x98 : Int) (l100 : List Int), av = (.agg (.cons (.agg (.cons (.v (.int .i64 x41)) (.cons (.v (.int .u64 x43)) (.cons (.v (.int .i64 x45)) (.cons (.ints .u8 32 l47) (.cons (.v (.int .u64 x50)) (.cons (.v (.int .u64 x52)) (.cons (.ints .u8 16 l54) .nil)))))))) (.cons (.agg (.cons (.v (.int .i64 x87)) (.cons (.v (.int .u64 x89)) (.cons (.v (.int .i64 x91)) (.cons (.ints .u8 32 l93) (.cons (.v (.int .u64 x96)) (.cons (.v (.int .u64 x98)) (.cons (.ints .u8 16 l100) .nil)))))))) .nil))) ∧ ((Lit.int .i64 x41).wf = true) ∧ ((Lit.int .u64 x43).wf = true) ∧ ((Lit.int .i64 x45).wf = true) ∧ (l47.length = 32 ∧ ∀ x ∈ l47, (Lit.int .u8 x).wf = true) ∧ ((Lit.int .u64 x50).wf = true) ∧ ((Lit.int .u64 x52).wf = true) ∧ (l54.length = 16 ∧ ∀ x ∈ l54, (Lit.int .u8 x).wf = true) ∧ ((Lit.int .i64 x87).wf = true) ∧ ((Lit.int .u64 x89).wf = true) ∧ ((Lit.int .i64 x91).wf = true) ∧ (l93.length = 32 ∧ ∀ x ∈ l93, (Lit.int .u8 x).wf = true) ∧ ((Lit.int .u64 x96).wf = true) ∧ ((Lit.int .u64 x98).wf = true) ∧ (l100.length = 16 ∧ ∀ x ∈ l100, (Lit.int .u8 x).wf = true) := by
  unfold wfA at h
  obtain ⟨l1, rfl, h2⟩ := (h : ∃ l, av = .agg l ∧ wfF tb 5 [(0, 53, 43), (53, 53, 43)] l)
  unfold wfF at h2
  obtain ⟨y3, l4, rfl, h5, h6⟩ := h2
  unfold wfF at h6
  obtain ⟨y7, l8, rfl, h9, h10⟩ := h6
  unfold wfF at h10
  subst h10
  unfold wfA at h5
  obtain ⟨l11, rfl, h12⟩ := (h5 : ∃ l, y3 = .agg l ∧ wfF tb 4 [(0, 1, 3), (1, 1, 22), (2, 1, 3), (3, 32, 26), (35, 1, 22), (36, 1, 39), (37, 16, 41)] l)
  unfold wfF at h12
  obtain ⟨y13, l14, rfl, h15, h16⟩ := h12
  unfold wfF at h16
  obtain ⟨y17, l18, rfl, h19, h20⟩ := h16
  unfold wfF at h20
  obtain ⟨y21, l22, rfl, h23, h24⟩ := h20
  unfold wfF at h24
  obtain ⟨y25, l26, rfl, h27, h28⟩ := h24
  unfold wfF at h28
  obtain ⟨y29, l30, rfl, h31, h32⟩ := h28
  unfold wfF at h32
  obtain ⟨y33, l34, rfl, h35, h36⟩ := h32
  unfold wfF at h36
  obtain ⟨y37, l38, rfl, h39, h40⟩ := h36
  unfold wfF at h40
  subst h40
  unfold wfA at h15
  obtain ⟨x41, rfl, w42⟩ := (h15 : ∃ x, y13 = .v (.int .i64 x) ∧ (Lit.int .i64 x).wf = true)
  unfold wfA at h19
  obtain ⟨x43, rfl, w44⟩ := (h19 : ∃ x, y17 = .v (.int .u64 x) ∧ (Lit.int .u64 x).wf = true)
  unfold wfA at h23
  obtain ⟨x45, rfl, w46⟩ := (h23 : ∃ x, y21 = .v (.int .i64 x) ∧ (Lit.int .i64 x).wf = true)
  unfold wfA at h27
  obtain ⟨l47, rfl, w48⟩ := (h27 : ∃ xs : List Int, y25 = .ints .u8 32 xs ∧ xs.length = 32 ∧ ∀ x ∈ xs, (Lit.int .u8 x).wf = true)
  unfold wfA at h31
  obtain ⟨x50, rfl, w51⟩ := (h31 : ∃ x, y29 = .v (.int .u64 x) ∧ (Lit.int .u64 x).wf = true)
  unfold wfA at h35
  obtain ⟨x52, rfl, w53⟩ := (h35 : ∃ x, y33 = .v (.int .u64 x) ∧ (Lit.int .u64 x).wf = true)
  unfold wfA at h39
  obtain ⟨l54, rfl, w55⟩ := (h39 : ∃ xs : List Int, y37 = .ints .u8 16 xs ∧ xs.length = 16 ∧ ∀ x ∈ xs, (Lit.int .u8 x).wf = true)
  unfold wfA at h9
  obtain ⟨l57, rfl, h58⟩ := (h9 : ∃ l, y7 = .agg l ∧ wfF tb 4 [(0, 1, 3), (1, 1, 22), (2, 1, 3), (3, 32, 26), (35, 1, 22), (36, 1, 39), (37, 16, 41)] l)
  unfold wfF at h58
  obtain ⟨y59, l60, rfl, h61, h62⟩ := h58
  unfold wfF at h62
  obtain ⟨y63, l64, rfl, h65, h66⟩ := h62
  unfold wfF at h66
  obtain ⟨y67, l68, rfl, h69, h70⟩ := h66
  unfold wfF at h70
  obtain ⟨y71, l72, rfl, h73, h74⟩ := h70
  unfold wfF at h74
  obtain ⟨y75, l76, rfl, h77, h78⟩ := h74
  unfold wfF at h78
  obtain ⟨y79, l80, rfl, h81, h82⟩ := h78
  unfold wfF at h82
  obtain ⟨y83, l84, rfl, h85, h86⟩ := h82
  unfold wfF at h86
  subst h86
  unfold wfA at h61
  obtain ⟨x87, rfl, w88⟩ := (h61 : ∃ x, y59 = .v (.int .i64 x) ∧ (Lit.int .i64 x).wf = true)
  unfold wfA at h65
  obtain ⟨x89, rfl, w90⟩ := (h65 : ∃ x, y63 = .v (.int .u64 x) ∧ (Lit.int .u64 x).wf = true)
  unfold wfA at h69
  obtain ⟨x91, rfl, w92⟩ := (h69 : ∃ x, y67 = .v (.int .i64 x) ∧ (Lit.int .i64 x).wf = true)
  unfold wfA at h73
  obtain ⟨l93, rfl, w94⟩ := (h73 : ∃ xs : List Int, y71 = .ints .u8 32 xs ∧ xs.length = 32 ∧ ∀ x ∈ xs, (Lit.int .u8 x).wf = true)
  unfold wfA at h77
  obtain ⟨x96, rfl, w97⟩ := (h77 : ∃ x, y75 = .v (.int .u64 x) ∧ (Lit.int .u64 x).wf = true)
  unfold wfA at h81
  obtain ⟨x98, rfl, w99⟩ := (h81 : ∃ x, y79 = .v (.int .u64 x) ∧ (Lit.int .u64 x).wf = true)
  unfold wfA at h85
  obtain ⟨l100, rfl, w101⟩ := (h85 : ∃ xs : List Int, y83 = .ints .u8 16 xs ∧ xs.length = 16 ∧ ∀ x ∈ xs, (Lit.int .u8 x).wf = true)
  exact ⟨x41, x43, x45, l47, x50, x52, l54, x87, x89, x91, l93, x96, x98, l100, rfl, w42, w44, w46, w48, w51, w53, w55, w88, w90, w92, w94, w97, w99, w101⟩

theorem state_of {av : AV} (h : wfA tb 6 37 av) : ∃ x : St, av = encSt x := by
  obtain ⟨nm, p0, p1, p2, p3, p4, p5, p6, p7, p8, p9, p10, p11, hh, t, id, a1, n1, c1, a2, n2, c2, a3, n3, c3, a4, n4, c4, a5, n5, c5, a6, n6, c6, u, v, rfl, _⟩ := shape37 h
  exact ⟨⟨nm, p0, p1, p2, p3, p4, p5, p6, p7, p8, p9, p10, p11, hh, t, id, a1, n1, c1, a2, n2, c2, a3, n3, c3, a4, n4, c4, a5, n5, c5, a6, n6, c6, u, v⟩, rfl⟩
theorem evid_of {av : AV} (h : wfA tb 6 52 av) : ∃ x : Vote × Vote, av = encE x := by
  obtain ⟨k, hh, r, id, t, f, s, k2, h2, r2, id2, t2, f2, s2, rfl, _⟩ := shape52 h
  exact ⟨(⟨k, hh, r, id, t, f, s⟩, ⟨k2, h2, r2, id2, t2, f2, s2⟩), rfl⟩

theorem open37 {H : Type} {enc : TypeId × Value → H} {W : World} {base b0 : Nat} {v : Value} {d : DataW H} {ps : List MemPlace} (hval : Value.okWide Tryz.prog W .any b0 37 v) (h : DataW.Trod enc Tryz.prog W base (fun _ => true) true 37 v d ps) : ∃ x : St, v = (encSt x).val := by
  obtain ⟨cs, rfl, _⟩ := okWide_struct Tryz.underlying37 hval
  obtain ⟨n, hn⟩ := h
  obtain ⟨av, h1, h2⟩ := open_plain tb_ok 6 n 37 _ _ deep37 hn
  obtain ⟨x, rfl⟩ := state_of h1
  refine ⟨x, ?_⟩
  show Value.agg cs = .agg (encSt x).cells.toArray
  rw [h2]; rfl
theorem open52 {H : Type} {enc : TypeId × Value → H} {W : World} {base b0 : Nat} {v : Value} {d : DataW H} {ps : List MemPlace} (hval : Value.okWide Tryz.prog W .any b0 52 v) (h : DataW.Trod enc Tryz.prog W base (fun _ => true) true 52 v d ps) : ∃ x : Vote × Vote, v = (encE x).val := by
  obtain ⟨cs, rfl, _⟩ := okWide_struct Tryz.underlying52 hval
  obtain ⟨n, hn⟩ := h
  obtain ⟨av, h1, h2⟩ := open_plain tb_ok 6 n 52 _ _ deep52 hn
  obtain ⟨x, rfl⟩ := evid_of h1
  refine ⟨x, ?_⟩
  show Value.agg cs = .agg (encE x).cells.toArray
  rw [h2]; rfl

def zeroS : St := ⟨⟨#[]⟩, 0, 0, 0, 0, 0, 0, 0, 0, 0, 0, 0, 0, 0, 0, List.replicate 32 0, none, 0, 0, none, 0, 0, none, 0, 0, none, 0, 0, none, 0, 0, none, 0, 0, 0, 0⟩

theorem lifted (os : Os) (started : os.Started) (H : Type) (enc : TypeId × Value → H) :
    ReturnsInHanded {} Tryz.checked os 6 .any (fun w args => (Rows.misdeedNilSpec.pre enc Tryz.prog Tryz.f6 [] false w args ∧ laidMetH Tryz.prog laid2 w) ∧ sizedMet enc Tryz.prog Tryz.f6 (OpenSpec.ofChange Rows.misdeedNilSpec) false w args)
      (Rows.misdeedNilSpec.post enc Tryz.prog Tryz.f6 false true false false) := by
  refine returnsInHanded_of_change_and (C := Tryz.checked) (X := fun w _ => laidMetH Tryz.prog laid2 w) (fun _ _ _ hh h => h.of_heap hh) own started (by kernel_rfl) Tryz.func6
    (ChangeSpec.witness_shaped (enc := enc) (C := Tryz.checked) (os := os) (X := fun w _ => laidMetH Tryz.prog laid2 w) false (World.doorLaid Tryz.prog 4000 os) #[(encSt zeroS).val, (encE (zeroV, zeroV)).val] 8 rfl (World.shaped_of_RefB (by kernel_rfl) (by kernel_rfl)) (by kernel_rfl) (by kernel_rfl) (by kernel_rfl) (door_met os _)) ?_
  intro W base args ds gs before hval0 hW _ _ hL _
  have hval : ∀ (j : Nat) t v, Tryz.f6.params[j]? = some t → args[j]? = some v → Value.okWide Tryz.prog W .any base t v := hval0
  have hW' := hW
  obtain ⟨p, q, hA0, hV, rfl, hfz, hnd⟩ := hW
  have hA : DataW.TrodAll enc Tryz.prog W 0 (fun _ => true) true Tryz.f6.params.toList args.toList ds p := hA0
  rw [Tryz.params6] at hA hval
  obtain ⟨v0, v1, d0, d1, p0, p1, rfl, rfl, rfl, h0, h1⟩ := trodAll_two hA
  obtain ⟨rfl, rfl⟩ := trodVars_none hV
  obtain ⟨x, rfl⟩ := open37 (hval 0 37 v0 rfl rfl) h0
  obtain ⟨y, rfl⟩ := open52 (hval 1 52 v1 rfl rfl) h1
  refine (law_calls x y W).mono fun e W' ⟨he, hb⟩ => ?_
  subst he
  exact ⟨_, rfl, post_below (by kernel_rfl) (by decide +kernel) hW' rfl (fun _ _ _ => (trodAll_cons_mk (shut_bool Tryz.underlying4 _) trodAll_mk0)) rfl rfl hb (ok_one (by kernel_rfl) rfl (okWide_bool_mk Tryz.underlying4 _))⟩

theorem over : Rows.MisdeedNilSaid :=
  OpenClaim.holds_of_wide 6 Tryz.f6 rfl rfl rfl rfl rfl rfl rfl ⟨rfl, rfl, rfl, rfl, rfl⟩ rfl rfl rfl rfl rfl (by kernel_rfl) Tryz.func6 (by kernel_rfl)
    (of_decide_eq_true (by kernel_rfl)) (by unfold Func.isWrapper; first | (rw [if_pos (by decide +kernel)]; kernel_rfl) | (rw [if_neg (by decide +kernel)]; exact ⟨rfl, rfl⟩))
    (fun os started H enc _ => lifted os started H enc)

theorem proved : Rows.MisdeedNilCardSaid :=
  Claim7.holds_tied_plain_at .later [] [.data, .data] true Rows.misdeedNilCard.stood.harness false
    over (fun _ h => by cases h) (by kernel_rfl) (fun _ h => by cases h) misdeedNil_row_tie rfl ⟨rfl, rfl⟩ (by kernel_rfl) rfl
    (fun f fn hf hfn => by
      obtain rfl : f = 6 := Option.some.inj ((show Tryz.prog.funcNamed "assent/assentlaw11.MisdeedNil" = some 6 by kernel_rfl).symm.trans hf) |>.symm
      obtain rfl : fn = Tryz.f6 := (Option.some.inj (Tryz.func6.symm.trans hfn)).symm
      exact ⟨by kernel_rfl, fun j t ht => by
        rw [Tryz.params6] at ht
        have hm : t ∈ [37, 52] := by simpa using Array.mem_of_getElem? ht
        have hall : ([37, 52].all fun u => !Tryz.prog.wantsStandIn u) = true := by kernel_rfl
        exact (show Tryz.prog.wantsStandIn t = false by simpa using List.all_eq_true.1 hall t hm)⟩)
    (by kernel_rfl)
#print axioms proved
end Go.Proofs.YtofophjfgalhaaaGreatDoor.misdeedNil

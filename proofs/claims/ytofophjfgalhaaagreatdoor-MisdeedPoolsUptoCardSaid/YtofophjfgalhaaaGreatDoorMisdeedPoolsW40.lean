import Derived.Test.YtofophjfgalhaaaGreatDoorMisdeedPoolsW12
import Derived.Test.YtofophjfgalhaaaGreatDoorMisdeedPoolsW16
import Derived.Test.YtofophjfgalhaaaGreatDoorMisdeedPoolsW17
import Derived.Test.YtofophjfgalhaaaGreatDoorMisdeedPoolsW35
import Derived.Test.YtofophjfgalhaaaGreatDoorMisdeedPoolsW39
import Derived.Test.YtofophjfgalhaaaGreatDoorRows
import Derived.Test.YtofophjfgalhaaaGreatDoorCards
import Derived.Test.YtofophjfgalhaaaGreatDoorTie
import Derived.WalkKit
import Derived.ProofKit
import Derived.LaidMore
import Derived.OpenShut
import Derived.Stop.Joined
import Derived.SevenTiedAt
import Derived.SizedLaws
import Derived.Carry
import Derived.JoinedCond
set_option linter.unusedVariables false
set_option linter.unusedSimpArgs false
set_option maxRecDepth 100000
set_option maxHeartbeats 8000000
namespace Go.Proofs.YtofophjfgalhaaaGreatDoor.V
open Go Go.RowKit Go.ChangeShapes Go.WideShapes Go.ChangeAt
theorem shape37 {Q : TypeId → Value → Prop} (hQ : ∀ t v, Q t v → ∃ a n c, v = .slice a n c) {av : AV} (h : wfQ Q tb2 6 37 av) : ∃ (s43 : ByteArray) (x94 : Int) (x96 : Int) (x98 : Int) (x100 : Int) (x102 : Int) (x104 : Int) (x106 : Int) (x108 : Int) (x110 : Int) (x112 : Int) (x114 : Int) (x116 : Int) (x118 : Int) (x120 : Int) (l122 : List Int) (a131 : Option Addr) (n132 : Nat) (c133 : Nat) (a142 : Option Addr) (n143 : Nat) (c144 : Nat) (a147 : Option Addr) (n148 : Nat) (c149 : Nat) (a152 : Option Addr) (n153 : Nat) (c154 : Nat) (a175 : Option Addr) (n176 : Nat) (c177 : Nat) (a180 : Option Addr) (n181 : Nat) (c182 : Nat) (x185 : Int) (x187 : Int), av = (.agg (.cons (.v (.string s43)) (.cons (.agg (.cons (.v (.int .u64 x94)) (.cons (.v (.int .i64 x96)) (.cons (.v (.int .u64 x98)) (.cons (.v (.int .u64 x100)) (.cons (.v (.int .u64 x102)) (.cons (.v (.int .i64 x104)) (.cons (.v (.int .u64 x106)) (.cons (.v (.int .u64 x108)) (.cons (.v (.int .u64 x110)) (.cons (.v (.int .u64 x112)) (.cons (.v (.int .u64 x114)) (.cons (.v (.int .u64 x116)) .nil))))))))))))) (.cons (.v (.int .u64 x118)) (.cons (.v (.int .u64 x120)) (.cons (.ints .u8 32 l122) (.cons (.agg (.cons (.v (.slice a131 n132 c133)) .nil)) (.cons (.agg (.cons (.v (.slice a142 n143 c144)) .nil)) (.cons (.v (.slice a147 n148 c149)) (.cons (.v (.slice a152 n153 c154)) (.cons (.agg (.cons (.v (.slice a175 n176 c177)) (.cons (.v (.slice a180 n181 c182)) (.cons (.v (.int .u64 x185)) (.cons (.v (.int .u64 x187)) .nil))))) .nil))))))))))) ∧ ((Lit.int .u64 x94).wf = true) ∧ ((Lit.int .i64 x96).wf = true) ∧ ((Lit.int .u64 x98).wf = true) ∧ ((Lit.int .u64 x100).wf = true) ∧ ((Lit.int .u64 x102).wf = true) ∧ ((Lit.int .i64 x104).wf = true) ∧ ((Lit.int .u64 x106).wf = true) ∧ ((Lit.int .u64 x108).wf = true) ∧ ((Lit.int .u64 x110).wf = true) ∧ ((Lit.int .u64 x112).wf = true) ∧ ((Lit.int .u64 x114).wf = true) ∧ ((Lit.int .u64 x116).wf = true) ∧ ((Lit.int .u64 x118).wf = true) ∧ ((Lit.int .u64 x120).wf = true) ∧ (l122.length = 32 ∧ ∀ x ∈ l122, (Lit.int .u8 x).wf = true) ∧ (Q 27 (.slice a131 n132 c133)) ∧ (Q 27 (.slice a142 n143 c144)) ∧ (Q 30 (.slice a147 n148 c149)) ∧ (Q 31 (.slice a152 n153 c154)) ∧ (Q 32 (.slice a175 n176 c177)) ∧ (Q 33 (.slice a180 n181 c182)) ∧ ((Lit.int .u64 x185).wf = true) ∧ ((Lit.int .u64 x187).wf = true) := by
 unfold wfQ at h
 obtain ⟨l1, rfl, h2⟩ := (h : ∃ l, av = .agg l ∧ wfQF Q tb2 5 [(0, 1, 9), (1, 12, 24), (13, 1, 22), (14, 1, 22), (15, 32, 26), (47, 1, 29), (48, 1, 29), (49, 1, 30), (50, 1, 31), (51, 4, 35)] l)
 unfold wfQF at h2
 obtain ⟨y3, l4, rfl, h5, h6⟩ := h2
 unfold wfQF at h6
 obtain ⟨y7, l8, rfl, h9, h10⟩ := h6
 unfold wfQF at h10
 obtain ⟨y11, l12, rfl, h13, h14⟩ := h10
 unfold wfQF at h14
 obtain ⟨y15, l16, rfl, h17, h18⟩ := h14
 unfold wfQF at h18
 obtain ⟨y19, l20, rfl, h21, h22⟩ := h18
 unfold wfQF at h22
 obtain ⟨y23, l24, rfl, h25, h26⟩ := h22
 unfold wfQF at h26
 obtain ⟨y27, l28, rfl, h29, h30⟩ := h26
 unfold wfQF at h30
 obtain ⟨y31, l32, rfl, h33, h34⟩ := h30
 unfold wfQF at h34
 obtain ⟨y35, l36, rfl, h37, h38⟩ := h34
 unfold wfQF at h38
 obtain ⟨y39, l40, rfl, h41, h42⟩ := h38
 unfold wfQF at h42
 subst h42
 unfold wfQ at h5
 obtain ⟨s43, rfl⟩ := (h5 : ∃ s, y3 = .v (.string s))
 unfold wfQ at h9
 obtain ⟨l44, rfl, h45⟩ := (h9 : ∃ l, y7 = .agg l ∧ wfQF Q tb2 4 [(0, 1, 22), (1, 1, 3), (2, 1, 22), (3, 1, 22), (4, 1, 22), (5, 1, 3), (6, 1, 22), (7, 1, 22), (8, 1, 22), (9, 1, 22), (10, 1, 22), (11, 1, 22)] l)
 unfold wfQF at h45
 obtain ⟨y46, l47, rfl, h48, h49⟩ := h45
 unfold wfQF at h49
 obtain ⟨y50, l51, rfl, h52, h53⟩ := h49
 unfold wfQF at h53
 obtain ⟨y54, l55, rfl, h56, h57⟩ := h53
 unfold wfQF at h57
 obtain ⟨y58, l59, rfl, h60, h61⟩ := h57
 unfold wfQF at h61
 obtain ⟨y62, l63, rfl, h64, h65⟩ := h61
 unfold wfQF at h65
 obtain ⟨y66, l67, rfl, h68, h69⟩ := h65
 unfold wfQF at h69
 obtain ⟨y70, l71, rfl, h72, h73⟩ := h69
 unfold wfQF at h73
 obtain ⟨y74, l75, rfl, h76, h77⟩ := h73
 unfold wfQF at h77
 obtain ⟨y78, l79, rfl, h80, h81⟩ := h77
 unfold wfQF at h81
 obtain ⟨y82, l83, rfl, h84, h85⟩ := h81
 unfold wfQF at h85
 obtain ⟨y86, l87, rfl, h88, h89⟩ := h85
 unfold wfQF at h89
 obtain ⟨y90, l91, rfl, h92, h93⟩ := h89
 unfold wfQF at h93
 subst h93
 unfold wfQ at h48
 obtain ⟨x94, rfl, w95⟩ := (h48 : ∃ x, y46 = .v (.int .u64 x) ∧ (Lit.int .u64 x).wf = true)
 unfold wfQ at h52
 obtain ⟨x96, rfl, w97⟩ := (h52 : ∃ x, y50 = .v (.int .i64 x) ∧ (Lit.int .i64 x).wf = true)
 unfold wfQ at h56
 obtain ⟨x98, rfl, w99⟩ := (h56 : ∃ x, y54 = .v (.int .u64 x) ∧ (Lit.int .u64 x).wf = true)
 unfold wfQ at h60
 obtain ⟨x100, rfl, w101⟩ := (h60 : ∃ x, y58 = .v (.int .u64 x) ∧ (Lit.int .u64 x).wf = true)
 unfold wfQ at h64
 obtain ⟨x102, rfl, w103⟩ := (h64 : ∃ x, y62 = .v (.int .u64 x) ∧ (Lit.int .u64 x).wf = true)
 unfold wfQ at h68
 obtain ⟨x104, rfl, w105⟩ := (h68 : ∃ x, y66 = .v (.int .i64 x) ∧ (Lit.int .i64 x).wf = true)
 unfold wfQ at h72
 obtain ⟨x106, rfl, w107⟩ := (h72 : ∃ x, y70 = .v (.int .u64 x) ∧ (Lit.int .u64 x).wf = true)
 unfold wfQ at h76
 obtain ⟨x108, rfl, w109⟩ := (h76 : ∃ x, y74 = .v (.int .u64 x) ∧ (Lit.int .u64 x).wf = true)
 unfold wfQ at h80
 obtain ⟨x110, rfl, w111⟩ := (h80 : ∃ x, y78 = .v (.int .u64 x) ∧ (Lit.int .u64 x).wf = true)
 unfold wfQ at h84
 obtain ⟨x112, rfl, w113⟩ := (h84 : ∃ x, y82 = .v (.int .u64 x) ∧ (Lit.int .u64 x).wf = true)
 unfold wfQ at h88
 obtain ⟨x114, rfl, w115⟩ := (h88 : ∃ x, y86 = .v (.int .u64 x) ∧ (Lit.int .u64 x).wf = true)
 unfold wfQ at h92
 obtain ⟨x116, rfl, w117⟩ := (h92 : ∃ x, y90 = .v (.int .u64 x) ∧ (Lit.int .u64 x).wf = true)
 unfold wfQ at h13
 obtain ⟨x118, rfl, w119⟩ := (h13 : ∃ x, y11 = .v (.int .u64 x) ∧ (Lit.int .u64 x).wf = true)
 unfold wfQ at h17
 obtain ⟨x120, rfl, w121⟩ := (h17 : ∃ x, y15 = .v (.int .u64 x) ∧ (Lit.int .u64 x).wf = true)
 unfold wfQ at h21
 obtain ⟨l122, rfl, w123⟩ := (h21 : ∃ xs : List Int, y19 = .ints .u8 32 xs ∧ xs.length = 32 ∧ ∀ x ∈ xs, (Lit.int .u8 x).wf = true)
 unfold wfQ at h25
 obtain ⟨l125, rfl, h126⟩ := (h25 : ∃ l, y23 = .agg l ∧ wfQF Q tb2 4 [(0, 1, 27)] l)
 unfold wfQF at h126
 obtain ⟨y127, l128, rfl, h129, h130⟩ := h126
 unfold wfQF at h130
 subst h130
 unfold wfQ at h129
 obtain ⟨v134, rfl, w135⟩ := (h129 : ∃ v, y127 = .v v ∧ Q 27 v)
 obtain ⟨a131, n132, c133, rfl⟩ := hQ _ _ w135
 unfold wfQ at h29
 obtain ⟨l136, rfl, h137⟩ := (h29 : ∃ l, y27 = .agg l ∧ wfQF Q tb2 4 [(0, 1, 27)] l)
 unfold wfQF at h137
 obtain ⟨y138, l139, rfl, h140, h141⟩ := h137
 unfold wfQF at h141
 subst h141
 unfold wfQ at h140
 obtain ⟨v145, rfl, w146⟩ := (h140 : ∃ v, y138 = .v v ∧ Q 27 v)
 obtain ⟨a142, n143, c144, rfl⟩ := hQ _ _ w146
 unfold wfQ at h33
 obtain ⟨v150, rfl, w151⟩ := (h33 : ∃ v, y31 = .v v ∧ Q 30 v)
 obtain ⟨a147, n148, c149, rfl⟩ := hQ _ _ w151
 unfold wfQ at h37
 obtain ⟨v155, rfl, w156⟩ := (h37 : ∃ v, y35 = .v v ∧ Q 31 v)
 obtain ⟨a152, n153, c154, rfl⟩ := hQ _ _ w156
 unfold wfQ at h41
 obtain ⟨l157, rfl, h158⟩ := (h41 : ∃ l, y39 = .agg l ∧ wfQF Q tb2 4 [(0, 1, 32), (1, 1, 33), (2, 1, 22), (3, 1, 22)] l)
 unfold wfQF at h158
 obtain ⟨y159, l160, rfl, h161, h162⟩ := h158
 unfold wfQF at h162
 obtain ⟨y163, l164, rfl, h165, h166⟩ := h162
 unfold wfQF at h166
 obtain ⟨y167, l168, rfl, h169, h170⟩ := h166
 unfold wfQF at h170
 obtain ⟨y171, l172, rfl, h173, h174⟩ := h170
 unfold wfQF at h174
 subst h174
 unfold wfQ at h161
 obtain ⟨v178, rfl, w179⟩ := (h161 : ∃ v, y159 = .v v ∧ Q 32 v)
 obtain ⟨a175, n176, c177, rfl⟩ := hQ _ _ w179
 unfold wfQ at h165
 obtain ⟨v183, rfl, w184⟩ := (h165 : ∃ v, y163 = .v v ∧ Q 33 v)
 obtain ⟨a180, n181, c182, rfl⟩ := hQ _ _ w184
 unfold wfQ at h169
 obtain ⟨x185, rfl, w186⟩ := (h169 : ∃ x, y167 = .v (.int .u64 x) ∧ (Lit.int .u64 x).wf = true)
 unfold wfQ at h173
 obtain ⟨x187, rfl, w188⟩ := (h173 : ∃ x, y171 = .v (.int .u64 x) ∧ (Lit.int .u64 x).wf = true)
 exact ⟨s43, x94, x96, x98, x100, x102, x104, x106, x108, x110, x112, x114, x116, x118, x120, l122, a131, n132, c133, a142, n143, c144, a147, n148, c149, a152, n153, c154, a175, n176, c177, a180, n181, c182, x185, x187, rfl, w95, w97, w99, w101, w103, w105, w107, w109, w111, w113, w115, w117, w119, w121, w123, w135, w146, w151, w156, w179, w184, w186, w188⟩
theorem shape46 {Q : TypeId → Value → Prop} (hQ : ∀ t v, Q t v → ∃ a n c, v = .slice a n c) {av : AV} (h : wfQ Q tb2 6 46 av) : ∃ (x49 : Int) (x51 : Int) (x53 : Int) (l55 : List Int) (x58 : Int) (x60 : Int) (l62 : List Int) (x95 : Int) (x97 : Int) (x99 : Int) (l101 : List Int) (x104 : Int) (x106 : Int) (l108 : List Int) (b121 : Bool) (b122 : Bool) (b123 : Bool), av = (.agg (.cons (.agg (.cons (.v (.int .i64 x49)) (.cons (.v (.int .u64 x51)) (.cons (.v (.int .i64 x53)) (.cons (.ints .u8 32 l55) (.cons (.v (.int .u64 x58)) (.cons (.v (.int .u64 x60)) (.cons (.ints .u8 16 l62) .nil)))))))) (.cons (.agg (.cons (.v (.int .i64 x95)) (.cons (.v (.int .u64 x97)) (.cons (.v (.int .i64 x99)) (.cons (.ints .u8 32 l101) (.cons (.v (.int .u64 x104)) (.cons (.v (.int .u64 x106)) (.cons (.ints .u8 16 l108) .nil)))))))) (.cons (.agg (.cons (.v (.bool b121)) (.cons (.v (.bool b122)) .nil))) (.cons (.v (.bool b123)) .nil))))) ∧ ((Lit.int .i64 x49).wf = true) ∧ ((Lit.int .u64 x51).wf = true) ∧ ((Lit.int .i64 x53).wf = true) ∧ (l55.length = 32 ∧ ∀ x ∈ l55, (Lit.int .u8 x).wf = true) ∧ ((Lit.int .u64 x58).wf = true) ∧ ((Lit.int .u64 x60).wf = true) ∧ (l62.length = 16 ∧ ∀ x ∈ l62, (Lit.int .u8 x).wf = true) ∧ ((Lit.int .i64 x95).wf = true) ∧ ((Lit.int .u64 x97).wf = true) ∧ ((Lit.int .i64 x99).wf = true) ∧ (l101.length = 32 ∧ ∀ x ∈ l101, (Lit.int .u8 x).wf = true) ∧ ((Lit.int .u64 x104).wf = true) ∧ ((Lit.int .u64 x106).wf = true) ∧ (l108.length = 16 ∧ ∀ x ∈ l108, (Lit.int .u8 x).wf = true) := by
 unfold wfQ at h
 obtain ⟨l1, rfl, h2⟩ := (h : ∃ l, av = .agg l ∧ wfQF Q tb2 5 [(0, 53, 43), (53, 53, 43), (106, 2, 44), (108, 1, 4)] l)
 unfold wfQF at h2
 obtain ⟨y3, l4, rfl, h5, h6⟩ := h2
 unfold wfQF at h6
 obtain ⟨y7, l8, rfl, h9, h10⟩ := h6
 unfold wfQF at h10
 obtain ⟨y11, l12, rfl, h13, h14⟩ := h10
 unfold wfQF at h14
 obtain ⟨y15, l16, rfl, h17, h18⟩ := h14
 unfold wfQF at h18
 subst h18
 unfold wfQ at h5
 obtain ⟨l19, rfl, h20⟩ := (h5 : ∃ l, y3 = .agg l ∧ wfQF Q tb2 4 [(0, 1, 3), (1, 1, 22), (2, 1, 3), (3, 32, 26), (35, 1, 22), (36, 1, 39), (37, 16, 41)] l)
 unfold wfQF at h20
 obtain ⟨y21, l22, rfl, h23, h24⟩ := h20
 unfold wfQF at h24
 obtain ⟨y25, l26, rfl, h27, h28⟩ := h24
 unfold wfQF at h28
 obtain ⟨y29, l30, rfl, h31, h32⟩ := h28
 unfold wfQF at h32
 obtain ⟨y33, l34, rfl, h35, h36⟩ := h32
 unfold wfQF at h36
 obtain ⟨y37, l38, rfl, h39, h40⟩ := h36
 unfold wfQF at h40
 obtain ⟨y41, l42, rfl, h43, h44⟩ := h40
 unfold wfQF at h44
 obtain ⟨y45, l46, rfl, h47, h48⟩ := h44
 unfold wfQF at h48
 subst h48
 unfold wfQ at h23
 obtain ⟨x49, rfl, w50⟩ := (h23 : ∃ x, y21 = .v (.int .i64 x) ∧ (Lit.int .i64 x).wf = true)
 unfold wfQ at h27
 obtain ⟨x51, rfl, w52⟩ := (h27 : ∃ x, y25 = .v (.int .u64 x) ∧ (Lit.int .u64 x).wf = true)
 unfold wfQ at h31
 obtain ⟨x53, rfl, w54⟩ := (h31 : ∃ x, y29 = .v (.int .i64 x) ∧ (Lit.int .i64 x).wf = true)
 unfold wfQ at h35
 obtain ⟨l55, rfl, w56⟩ := (h35 : ∃ xs : List Int, y33 = .ints .u8 32 xs ∧ xs.length = 32 ∧ ∀ x ∈ xs, (Lit.int .u8 x).wf = true)
 unfold wfQ at h39
 obtain ⟨x58, rfl, w59⟩ := (h39 : ∃ x, y37 = .v (.int .u64 x) ∧ (Lit.int .u64 x).wf = true)
 unfold wfQ at h43
 obtain ⟨x60, rfl, w61⟩ := (h43 : ∃ x, y41 = .v (.int .u64 x) ∧ (Lit.int .u64 x).wf = true)
 unfold wfQ at h47
 obtain ⟨l62, rfl, w63⟩ := (h47 : ∃ xs : List Int, y45 = .ints .u8 16 xs ∧ xs.length = 16 ∧ ∀ x ∈ xs, (Lit.int .u8 x).wf = true)
 unfold wfQ at h9
 obtain ⟨l65, rfl, h66⟩ := (h9 : ∃ l, y7 = .agg l ∧ wfQF Q tb2 4 [(0, 1, 3), (1, 1, 22), (2, 1, 3), (3, 32, 26), (35, 1, 22), (36, 1, 39), (37, 16, 41)] l)
 unfold wfQF at h66
 obtain ⟨y67, l68, rfl, h69, h70⟩ := h66
 unfold wfQF at h70
 obtain ⟨y71, l72, rfl, h73, h74⟩ := h70
 unfold wfQF at h74
 obtain ⟨y75, l76, rfl, h77, h78⟩ := h74
 unfold wfQF at h78
 obtain ⟨y79, l80, rfl, h81, h82⟩ := h78
 unfold wfQF at h82
 obtain ⟨y83, l84, rfl, h85, h86⟩ := h82
 unfold wfQF at h86
 obtain ⟨y87, l88, rfl, h89, h90⟩ := h86
 unfold wfQF at h90
 obtain ⟨y91, l92, rfl, h93, h94⟩ := h90
 unfold wfQF at h94
 subst h94
 unfold wfQ at h69
 obtain ⟨x95, rfl, w96⟩ := (h69 : ∃ x, y67 = .v (.int .i64 x) ∧ (Lit.int .i64 x).wf = true)
 unfold wfQ at h73
 obtain ⟨x97, rfl, w98⟩ := (h73 : ∃ x, y71 = .v (.int .u64 x) ∧ (Lit.int .u64 x).wf = true)
 unfold wfQ at h77
 obtain ⟨x99, rfl, w100⟩ := (h77 : ∃ x, y75 = .v (.int .i64 x) ∧ (Lit.int .i64 x).wf = true)
 unfold wfQ at h81
 obtain ⟨l101, rfl, w102⟩ := (h81 : ∃ xs : List Int, y79 = .ints .u8 32 xs ∧ xs.length = 32 ∧ ∀ x ∈ xs, (Lit.int .u8 x).wf = true)
 unfold wfQ at h85
 obtain ⟨x104, rfl, w105⟩ := (h85 : ∃ x, y83 = .v (.int .u64 x) ∧ (Lit.int .u64 x).wf = true)
 unfold wfQ at h89
 obtain ⟨x106, rfl, w107⟩ := (h89 : ∃ x, y87 = .v (.int .u64 x) ∧ (Lit.int .u64 x).wf = true)
 unfold wfQ at h93
 obtain ⟨l108, rfl, w109⟩ := (h93 : ∃ xs : List Int, y91 = .ints .u8 16 xs ∧ xs.length = 16 ∧ ∀ x ∈ xs, (Lit.int .u8 x).wf = true)
 unfold wfQ at h13
 obtain ⟨l112, rfl, h111⟩ := (h13 : ∃ l, y11 = .agg l ∧ wfQR Q tb2 4 4 2 l)
 unfold wfQR at h111
 obtain ⟨y113, l114, rfl, h115, h116⟩ := h111
 unfold wfQR at h116
 obtain ⟨y117, l118, rfl, h119, h120⟩ := h116
 unfold wfQR at h120
 subst h120
 unfold wfQ at h115
 obtain ⟨b121, rfl⟩ := (h115 : ∃ b, y113 = .v (.bool b))
 unfold wfQ at h119
 obtain ⟨b122, rfl⟩ := (h119 : ∃ b, y117 = .v (.bool b))
 unfold wfQ at h17
 obtain ⟨b123, rfl⟩ := (h17 : ∃ b, y15 = .v (.bool b))
 exact ⟨x49, x51, x53, l55, x58, x60, l62, x95, x97, x99, l101, x104, x106, l108, b121, b122, b123, rfl, w50, w52, w54, w56, w59, w61, w63, w96, w98, w100, w102, w105, w107, w109⟩
theorem shape159 {Q : TypeId → Value → Prop} (hQ : ∀ t v, Q t v → ∃ a n c, v = .slice a n c) {av : AV} (h : wfQ Q tb2 6 159 av) : ∃ (x15 : Int) (x17 : Int) (a25 : Option Addr) (n26 : Nat) (c27 : Nat), av = (.agg (.cons (.v (.int .u64 x15)) (.cons (.v (.int .u64 x17)) (.cons (.agg (.cons (.v (.slice a25 n26 c27)) .nil)) .nil)))) ∧ ((Lit.int .u64 x15).wf = true) ∧ ((Lit.int .u64 x17).wf = true) ∧ (Q 27 (.slice a25 n26 c27)) := by
 unfold wfQ at h
 obtain ⟨l1, rfl, h2⟩ := (h : ∃ l, av = .agg l ∧ wfQF Q tb2 5 [(0, 1, 22), (1, 1, 22), (2, 1, 29)] l)
 unfold wfQF at h2
 obtain ⟨y3, l4, rfl, h5, h6⟩ := h2
 unfold wfQF at h6
 obtain ⟨y7, l8, rfl, h9, h10⟩ := h6
 unfold wfQF at h10
 obtain ⟨y11, l12, rfl, h13, h14⟩ := h10
 unfold wfQF at h14
 subst h14
 unfold wfQ at h5
 obtain ⟨x15, rfl, w16⟩ := (h5 : ∃ x, y3 = .v (.int .u64 x) ∧ (Lit.int .u64 x).wf = true)
 unfold wfQ at h9
 obtain ⟨x17, rfl, w18⟩ := (h9 : ∃ x, y7 = .v (.int .u64 x) ∧ (Lit.int .u64 x).wf = true)
 unfold wfQ at h13
 obtain ⟨l19, rfl, h20⟩ := (h13 : ∃ l, y11 = .agg l ∧ wfQF Q tb2 4 [(0, 1, 27)] l)
 unfold wfQF at h20
 obtain ⟨y21, l22, rfl, h23, h24⟩ := h20
 unfold wfQF at h24
 subst h24
 unfold wfQ at h23
 obtain ⟨v28, rfl, w29⟩ := (h23 : ∃ v, y21 = .v v ∧ Q 27 v)
 obtain ⟨a25, n26, c27, rfl⟩ := hQ _ _ w29
 exact ⟨x15, x17, a25, n26, c27, rfl, w16, w18, w29⟩
theorem shape229 {Q : TypeId → Value → Prop} (hQ : ∀ t v, Q t v → ∃ a n c, v = .slice a n c) {av : AV} (h : wfQ Q tb2 6 229 av) : ∃ (x11 : Int) (x13 : Int), av = (.agg (.cons (.v (.int .u64 x11)) (.cons (.v (.int .u64 x13)) .nil))) ∧ ((Lit.int .u64 x11).wf = true) ∧ ((Lit.int .u64 x13).wf = true) := by
 unfold wfQ at h
 obtain ⟨l1, rfl, h2⟩ := (h : ∃ l, av = .agg l ∧ wfQF Q tb2 5 [(0, 1, 22), (1, 1, 39)] l)
 unfold wfQF at h2
 obtain ⟨y3, l4, rfl, h5, h6⟩ := h2
 unfold wfQF at h6
 obtain ⟨y7, l8, rfl, h9, h10⟩ := h6
 unfold wfQF at h10
 subst h10
 unfold wfQ at h5
 obtain ⟨x11, rfl, w12⟩ := (h5 : ∃ x, y3 = .v (.int .u64 x) ∧ (Lit.int .u64 x).wf = true)
 unfold wfQ at h9
 obtain ⟨x13, rfl, w14⟩ := (h9 : ∃ x, y7 = .v (.int .u64 x) ∧ (Lit.int .u64 x).wf = true)
 exact ⟨x11, x13, rfl, w12, w14⟩
theorem shape183 {Q : TypeId → Value → Prop} (hQ : ∀ t v, Q t v → ∃ a n c, v = .slice a n c) {av : AV} (h : wfQ Q tb2 6 183 av) : ∃ (x15 : Int) (x17 : Int) (x19 : Int), av = (.agg (.cons (.v (.int .u64 x15)) (.cons (.v (.int .u64 x17)) (.cons (.v (.int .i64 x19)) .nil)))) ∧ ((Lit.int .u64 x15).wf = true) ∧ ((Lit.int .u64 x17).wf = true) ∧ ((Lit.int .i64 x19).wf = true) := by
 unfold wfQ at h
 obtain ⟨l1, rfl, h2⟩ := (h : ∃ l, av = .agg l ∧ wfQF Q tb2 5 [(0, 1, 39), (1, 1, 22), (2, 1, 2)] l)
 unfold wfQF at h2
 obtain ⟨y3, l4, rfl, h5, h6⟩ := h2
 unfold wfQF at h6
 obtain ⟨y7, l8, rfl, h9, h10⟩ := h6
 unfold wfQF at h10
 obtain ⟨y11, l12, rfl, h13, h14⟩ := h10
 unfold wfQF at h14
 subst h14
 unfold wfQ at h5
 obtain ⟨x15, rfl, w16⟩ := (h5 : ∃ x, y3 = .v (.int .u64 x) ∧ (Lit.int .u64 x).wf = true)
 unfold wfQ at h9
 obtain ⟨x17, rfl, w18⟩ := (h9 : ∃ x, y7 = .v (.int .u64 x) ∧ (Lit.int .u64 x).wf = true)
 unfold wfQ at h13
 obtain ⟨x19, rfl, w20⟩ := (h13 : ∃ x, y11 = .v (.int .i64 x) ∧ (Lit.int .i64 x).wf = true)
 exact ⟨x15, x17, x19, rfl, w16, w18, w20⟩
theorem state_of {Q : TypeId → Value → Prop} (hQ : ∀ t v, Q t v → ∃ a n c, v = .slice a n c) {av : AV} (h : wfQ Q tb2 6 37 av) : ∃ x : StV, av = encS x ∧ Q 30 (.slice x.a3 x.n3 x.c3) ∧ Q 31 (.slice x.a4 x.n4 x.c4) := by
 obtain ⟨nm, p0, p1, p2, p3, p4, p5, p6, p7, p8, p9, p10, p11, hh, t, id, a1, n1, c1, a2, n2, c2, a3, n3, c3, a4, n4, c4, a5, n5, c5, a6, n6, c6, u, v, rfl, k0, k1, k2, k3, k4, k5, k6, k7, k8, k9, k10, k11, k12, k13, k14, _, _, q3, q4, _⟩ := shape37 hQ h
 exact ⟨⟨nm, p0, p1, p2, p3, p4, p5, p6, p7, p8, p9, p10, p11, hh, t, id, a1, n1, c1, a2, n2, c2, a3, n3, c3, a4, n4, c4, a5, n5, c5, a6, n6, c6, u, v⟩, rfl, q3, q4⟩
theorem vr_of {x : Vote} (h1 : (Lit.int .u64 x.height).wf = true) (h2 : (Lit.int .u64 x.time).wf = true) (h3 : (Lit.int .u64 x.from_).wf = true) : VR x := by
 have b1 := bounds_u64 h1
 have b2 := bounds_u64 h2
 have b3 := bounds_u64 h3
 exact ⟨by omega, by omega, by omega⟩
theorem okV_of {x : Vote} (h : x.id.length = 32 ∧ ∀ z ∈ x.id, (Lit.int .u8 z).wf = true) : okV x := by
 intro j
 rw [List.getD_eq_getElem?_getD]
 rcases Nat.lt_or_ge j x.id.length with hj | hj
 ·
  rw [List.getElem?_eq_getElem hj]
  have b := bounds_u8 (h.2 _ (List.getElem_mem hj))
  exact ⟨b.1, by have := b.2; simp only [Option.getD_some]; omega⟩
 ·
  rw [List.getElem?_eq_none hj]
  exact ⟨Int.le_refl _, by decide⟩
theorem twoE_of {Q : TypeId → Value → Prop} (hQ : ∀ t v, Q t v → ∃ a n c, v = .slice a n c) {av : AV} (h : wfQ Q tb2 6 46 av) : ∃ t : Two, av = encT t ∧ VR t.a ∧ VR t.b ∧ okV t.a ∧ okV t.b := by
 obtain ⟨k, hh, r, id, t, f, s, k2, hh2, r2, id2, t2, f2, s2, sa, sb, tu, rfl, g1, g2, g3, g4, g5, g6, g7, j1, j2, j3, j4, j5, j6, j7⟩ := shape46 hQ h
 exact ⟨⟨⟨k, hh, r, id, t, f, s⟩, ⟨k2, hh2, r2, id2, t2, f2, s2⟩, sa, sb, tu⟩, rfl, vr_of g2 g5 g6, vr_of j2 j5 j6, okV_of g4, okV_of j4⟩
theorem pst_of {Q : TypeId → Value → Prop} (hQ : ∀ t v, Q t v → ∃ a n c, v = .slice a n c) {av : AV} (h : wfQ Q tb2 6 159 av) : av = pstX (pst1 av) ∧ Q 27 (.slice (pst1 av).a (pst1 av).n (pst1 av).c) := by
 obtain ⟨x, y, a, n, c, rfl, _, _, q⟩ := shape159 hQ h
 exact ⟨rfl, q⟩
theorem off_of {Q : TypeId → Value → Prop} (hQ : ∀ t v, Q t v → ∃ a n c, v = .slice a n c) {av : AV} (h : wfQ Q tb2 6 229 av) : av = offX (off1 av) := by
 obtain ⟨x, y, rfl, _⟩ := shape229 hQ h
 rfl
theorem mb_of {Q : TypeId → Value → Prop} (hQ : ∀ t v, Q t v → ∃ a n c, v = .slice a n c) {av : AV} (h : wfQ Q tb2 6 183 av) : av = mbX (mb1 av) := by
 obtain ⟨x, y, z, rfl, _⟩ := shape183 hQ h
 rfl
theorem deep37 : deepOk tb2 6 37 = true := by kernel_rfl
theorem deep46 : deepOk tb2 6 46 = true := by kernel_rfl
theorem deep159 : deepOk tb2 6 159 = true := by kernel_rfl
theorem deep229 : deepOk tb2 6 229 = true := by kernel_rfl
theorem deep183 : deepOk tb2 6 183 = true := by kernel_rfl
theorem deep39 : deepOk tb2 6 39 = true := by kernel_rfl
section
variable {H : Type} {enc : TypeId × Value → H} {W : World} {base : Nat}
end
instance : Inhabited Two := ⟨⟨zeroV, zeroV, false, false, false⟩⟩
instance : Inhabited StV := ⟨stZ⟩
instance : Inhabited StpV := ⟨⟨0, 0, 0, none, 0, 0⟩⟩
theorem deep135 : deepOk tb2 6 135 = true := by kernel_rfl
theorem deep3 : deepOk tb2 6 3 = true := by kernel_rfl
theorem step_of {Q : TypeId → Value → Prop} (hQ : ∀ t v, Q t v → ∃ a n c, v = .slice a n c) {av : AV} (h : wfQ Q tb2 6 135 av) : ∃ x : StpV, av = encP7 x ∧ i64R x.st ∧ i64R x.e ∧ Q 86 (.slice x.a x.n x.c) := by
 unfold wfQ at h
 obtain ⟨l1, rfl, h2⟩ := (h : ∃ l, av = .agg l ∧ wfQF Q tb2 5 [(0, 1, 3), (1, 1, 3), (2, 1, 3), (3, 1, 86)] l)
 unfold wfQF at h2
 obtain ⟨y3, l4, rfl, h5, h6⟩ := h2
 unfold wfQF at h6
 obtain ⟨y7, l8, rfl, h9, h10⟩ := h6
 unfold wfQF at h10
 obtain ⟨y11, l12, rfl, h13, h14⟩ := h10
 unfold wfQF at h14
 obtain ⟨y15, l16, rfl, h17, h18⟩ := h14
 unfold wfQF at h18
 subst h18
 unfold wfQ at h5 h9 h13 h17
 obtain ⟨x1, rfl, _⟩ := (h5 : ∃ x, y3 = .v (.int .i64 x) ∧ (Lit.int .i64 x).wf = true)
 obtain ⟨x2, rfl, w2⟩ := (h9 : ∃ x, y7 = .v (.int .i64 x) ∧ (Lit.int .i64 x).wf = true)
 obtain ⟨x3, rfl, w3⟩ := (h13 : ∃ x, y11 = .v (.int .i64 x) ∧ (Lit.int .i64 x).wf = true)
 obtain ⟨v, rfl, q⟩ := (h17 : ∃ v, y15 = .v v ∧ Q 86 v)
 obtain ⟨a, n, c, rfl⟩ := hQ _ _ q
 have b2 := bounds_i64 w2
 have b3 := bounds_i64 w3
 exact ⟨⟨x1, x2, x3, a, n, c⟩, rfl, ⟨by show _ ≤ x2; omega, by show x2 < _; omega⟩, ⟨by show _ ≤ x3; omega, by show x3 < _; omega⟩, q⟩
section
variable {H : Type} {enc : TypeId × Value → H} {W : World} {base : Nat}
theorem open129 {r : Reach} {b0 fuel : Nat} {v : Value} {x : DataW H × List MemPlace} (hval : Cell.okWide Tryz.prog W r b0 129 v) (h : DataW.trod enc Tryz.prog W base (fun _ => true) true fuel 129 [v] = some x) :
  ∃ (b : Option (Nat × Nat)) (n cap : Nat) (S : Nat → StV), v = slV b n cap ∧ (roB b 55 n fun i => encS (S i)).holds W ∧ (∀ i, i < n → QT enc Tryz.prog W base 30 (.slice (S i).a3 (S i).n3 (S i).c3) ∧ QT enc Tryz.prog W base 31 (.slice (S i).a4 (S i).n4 (S i).c4)) ∧ (n ≠ 0 → ∃ (D : Nat → DataW H) (sp : List (DataW H)), x.1 = .slice ((List.range n).map D) sp) := by
 obtain ⟨b, n, cap, f, D, sp, hv, hfw, hfr, hD⟩ := open_slQ tb2_ok Tryz.underlying129 (re := row37) rfl deep37 hval h
 have key : ∀ i, i < n → ∃ t : StV, f i = encS t ∧ QT enc Tryz.prog W base 30 (.slice t.a3 t.n3 t.c3) ∧ QT enc Tryz.prog W base 31 (.slice t.a4 t.n4 t.c4) := fun i hi => state_of (fun _ _ h => h.sl) (hfw i hi).1
 refine ⟨b, n, cap, fun i => if h : i < n then (key i h).choose else default, hv, open_roB (fun i hi => (hfw i hi).2.1) (fun i hi => wfQ_one QT.one (hfw i hi).1) hfr (fun i hi => ?_), fun i hi => ?_, fun h0 => ⟨D, sp, hD h0⟩⟩
 ·
  dsimp only
  rw [dif_pos hi]
  exact (key i hi).choose_spec.1
 ·
  dsimp only
  rw [dif_pos hi]
  exact (key i hi).choose_spec.2
theorem open131 {r : Reach} {b0 fuel : Nat} {v : Value} {x : DataW H × List MemPlace} (hval : Cell.okWide Tryz.prog W r b0 131 v) (h : DataW.trod enc Tryz.prog W base (fun _ => true) true fuel 131 [v] = some x) :
  ∃ (b : Option (Nat × Nat)) (n cap : Nat) (Y : Nat → StpV) (D : Nat → DataW H) (sp : List (DataW H)), v = slV b n cap ∧ (roB b 4 n fun i => encP7 (Y i)).holds W ∧ (∀ i, i < n → i64R (Y i).st ∧ i64R (Y i).e ∧ QT enc Tryz.prog W base 86 (.slice (Y i).a (Y i).n (Y i).c) ∧ ∃ fu pl, DataW.trod enc Tryz.prog W base (fun _ => true) true fu 135 (encP7 (Y i)).cells = some (D i, pl)) ∧ (n ≠ 0 → x.1 = .slice ((List.range n).map D) sp) := by
 obtain ⟨b, n, cap, f, D, sp, hv, hfw, hfr, hD⟩ := open_slQ tb2_ok Tryz.underlying131 (re := row135) rfl deep135 hval h
 have key : ∀ i, i < n → ∃ t : StpV, f i = encP7 t ∧ i64R t.st ∧ i64R t.e ∧ QT enc Tryz.prog W base 86 (.slice t.a t.n t.c) := fun i hi => step_of (fun _ _ h => h.sl) (hfw i hi).1
 refine ⟨b, n, cap, fun i => if h : i < n then (key i h).choose else default, D, sp, hv, open_roB (fun i hi => (hfw i hi).2.1) (fun i hi => wfQ_one QT.one (hfw i hi).1) hfr (fun i hi => ?_), fun i hi => ?_, hD⟩
 ·
  dsimp only
  rw [dif_pos hi]
  exact (key i hi).choose_spec.1
 ·
  dsimp only
  rw [dif_pos hi]
  obtain ⟨fu, pl, h9⟩ := (hfw i hi).2.2
  rw [(key i hi).choose_spec.1] at h9
  exact ⟨(key i hi).choose_spec.2.1, (key i hi).choose_spec.2.2.1, (key i hi).choose_spec.2.2.2, fu, pl, h9⟩
theorem openT {r : Reach} {b0 fuel : Nat} {v : Value} {x : DataW H × List MemPlace} (hval : Cell.okWide Tryz.prog W r b0 130 v) (h : DataW.trod enc Tryz.prog W base (fun _ => true) true fuel 130 [v] = some x) :
  ∃ (b : Option (Nat × Nat)) (n cap : Nat) (T : Nat → Two), v = slV b n cap ∧ (roB b 109 n fun i => encT (T i)).holds W ∧ (∀ i, i < n → (VR (T i).a ∧ VR (T i).b) ∧ okV (T i).a ∧ okV (T i).b) ∧ (n ≠ 0 → ∃ (D : Nat → DataW H) (sp : List (DataW H)), x.1 = .slice ((List.range n).map D) sp) := by
 obtain ⟨b, n, cap, f, D, sp, hv, hfw, hfr, hD⟩ := open_slQ tb2_ok Tryz.underlying130 (re := row46) rfl deep46 hval h
 have key : ∀ i, i < n → ∃ t : Two, f i = encT t ∧ (VR t.a ∧ VR t.b) ∧ okV t.a ∧ okV t.b := fun i hi => by
  obtain ⟨t, h1, h2, h3, h4, h5⟩ := twoE_of (fun _ _ h => h.sl) (hfw i hi).1
  exact ⟨t, h1, ⟨h2, h3⟩, h4, h5⟩
 refine ⟨b, n, cap, fun i => if h : i < n then (key i h).choose else default, hv, open_roB (fun i hi => (hfw i hi).2.1) (fun i hi => wfQ_one QT.one (hfw i hi).1) hfr (fun i hi => ?_), fun i hi => ?_, fun h0 => ⟨D, sp, hD h0⟩⟩
 ·
  dsimp only
  rw [dif_pos hi]
  exact (key i hi).choose_spec.1
 ·
  dsimp only
  rw [dif_pos hi]
  exact (key i hi).choose_spec.2
theorem came_inS (enc : TypeId × Value → H) (W : World) (base : Nat) : ∃ (base1 base2 base3 base4 : Nat → Option (Nat × Nat)) (len1 len2 len3 len4 : Nat → Nat) (f1 f2 f3 f4 : Nat → Nat → AV), (Blk.vro 3 base1 len1 f1).holds W ∧ (Blk.vro 2 base2 len2 f2).holds W ∧ (Blk.vro 3 base3 len3 f3).holds W ∧ (Blk.vro 1 base4 len4 f4).holds W ∧
  (∀ x : StV, QT enc Tryz.prog W base 30 (.slice x.a3 x.n3 x.c3) → QT enc Tryz.prog W base 31 (.slice x.a4 x.n4 x.c4) → StOk base1 base2 base3 len1 len2 len3 f1 f2 f3 x) ∧ ∀ x : StpV, i64R x.st → i64R x.e → QT enc Tryz.prog W base 86 (.slice x.a x.n x.c) → x.n ≤ 1048576 → StpOk base4 len4 f4 x := by
 obtain ⟨base1, len1, f1, h1, u1⟩ := uni_exists W 3 (wfQ (QT enc Tryz.prog W base) tb2 6 159)
 obtain ⟨base2, len2, f2, h2, u2⟩ := uni_exists W 2 (wfQ (QT enc Tryz.prog W base) tb2 6 229)
 obtain ⟨base3, len3, f3, h3, u3⟩ := uni_exists W 3 (wfQ (QT enc Tryz.prog W base) tb2 6 183)
 obtain ⟨base4, len4, f4, h4, u4⟩ := uni_exists W 1 (wfQ (QT enc Tryz.prog W base) tb2 6 3)
 refine ⟨base1, base2, base3, base4, len1, len2, len3, len4, f1, f2, f3, f4, h1, h2, h3, h4, fun x q3 q4 => ?_, fun x r1 r2 q hn => ?_⟩
 ·
  obtain ⟨k1, k2, k3⟩ := stand_of tb2_ok Tryz.underlying30 (re := row159) rfl deep159 (by decide) q3 u1
  obtain ⟨l1, l2, l3⟩ := stand_of tb2_ok Tryz.underlying31 (re := row229) rfl deep229 (by decide) q4 u2
  refine ⟨⟨k1, fun h0 => ?_⟩, ⟨l1, fun h0 => ?_⟩, fun k hk => ?_⟩
  ·
   obtain ⟨b, o, e1, e2, e3⟩ := k3 h0
   refine ⟨rfl, b, o, e1, e2, e3, fun i hi => ?_⟩
   have := (pst_of (fun _ _ h => h.sl) (k2 i hi)).1
   rw [e1] at this
   exact this
  ·
   obtain ⟨b, o, e1, e2, e3⟩ := l3 h0
   refine ⟨rfl, b, o, e1, e2, e3, fun i hi => ?_⟩
   have := off_of (fun _ _ h => h.sl) (l2 i hi)
   rw [e1] at this
   exact this
  ·
   have hk : k < x.n3 := by simpa using hk
   have e : ((List.range x.n3).map fun i => pst1 (f1 (hxA x.a3 x.n3) i)).getD k default = pst1 (f1 (hxA x.a3 x.n3) k) := by
    rw [List.getD_eq_getElem?_getD, List.getElem?_map, List.getElem?_range hk]; rfl
   rw [e]
   have q := (pst_of (fun _ _ h => h.sl) (k2 k hk)).2
   obtain ⟨m1, m2, m3⟩ := stand_of tb2_ok Tryz.underlying27 (re := row183) rfl deep183 (by decide) q u3
   refine ⟨m1, fun h0 => ?_⟩
   obtain ⟨b, o, e1, e2, e3⟩ := m3 h0
   refine ⟨rfl, b, o, e1, e2, e3, fun i hi => ?_⟩
   have := mb_of (fun _ _ h => h.sl) (m2 i hi)
   rw [e1] at this
   exact this
 ·
  obtain ⟨m1, m2, m3⟩ := stand_of tb2_ok Tryz.underlying86 (re := row3) rfl deep3 (by decide) q u4
  refine ⟨r1, r2, hn, fun h0 => ?_⟩
  obtain ⟨b, o, e1, e2, e3⟩ := m3 h0
  refine ⟨b, o, e1, e2, e3, fun i hi => ?_⟩
  have h9 := m2 i hi
  rw [e1] at h9
  unfold wfQ at h9
  obtain ⟨z, e9, w9⟩ := (h9 : ∃ z, f4 (hx b o x.n) i = .v (.int .i64 z) ∧ (Lit.int .i64 z).wf = true)
  have e9 : f4 (hx b o x.n) i = .v (.int .i64 z) := e9
  have b9 := bounds_i64 w9
  rw [e9]
  exact ⟨rfl, by show _ ≤ z; omega, by show z < _; omega⟩
end
end Go.Proofs.YtofophjfgalhaaaGreatDoor.V
namespace Go.Proofs.YtofophjfgalhaaaGreatDoor.misdeedPools
open Go.ChangeShapes Go.WideShapes Go.ChangeAt Go.RowKit Go.Proofs.YtofophjfgalhaaaGreatDoor.V
theorem own : ownKnob Tryz.prog.godebug = none := by kernel_rfl
def laid3 : List (String × DataW Unit) := [("assent/assentref02.adds", Rows.laid_assent_assentref02_adds), ("assent/digest.adds", Rows.laid_assent_digest_adds), ("assent/digest.begin", Rows.laid_assent_digest_begin)]
theorem door_met (os : Os) (args : Array Value) : laidMetH Tryz.prog laid3 ((World.doorLaid Tryz.prog 4000 os).forCall (fun _ _ => 0) ⟨#[], args, []⟩).memory :=
 laidMetH_of_parts3 (fuel := 8) (laidMet_of_run' 8 (by kernel_rfl) (by kernel_rfl)) (by kernel_rfl) (by kernel_rfl)
def numsOf : List (DataW Unit) → List Int
 | [] => []
 | .lit (.int _ z) :: r => z :: numsOf r
 | _ :: r => 0 :: numsOf r
def K : List Int := match (Rows.laid_assent_digest_adds : DataW Unit) with
 | .agg l => numsOf l
 | _ => []
theorem adds1 : (Rows.laid_assent_assentref02_adds : DataW Unit) = .agg (K.map fun z => .lit (.int .u32 z)) := by rfl
theorem adds2 : (Rows.laid_assent_digest_adds : DataW Unit) = .agg (K.map fun z => .lit (.int .u32 z)) := by rfl
theorem beg : (Rows.laid_assent_digest_begin : DataW Unit) = .agg (b0L.map fun z => .lit (.int .u32 z)) := by rfl
theorem laid_is {W : World} (h : laidMetH Tryz.prog laid3 W) : (Blk.var 2 (.ints .u32 64 K)).holds W ∧ (Blk.var 3 (.ints .u32 8 b0L)).holds W ∧ (Blk.var 4 (.ints .u32 64 K)).holds W := by
 rw [MakeChecks.laidMetH_plain _ _ _ (by kernel_rfl)] at h
 obtain ⟨ps, h, _⟩ := h
 obtain ⟨g1, t1, cs1, fu1, p1, q1, hg1, ht1, hv1, hd1, h, _⟩ := h
 obtain ⟨g2, t2, cs2, fu2, p2, q2, hg2, ht2, hv2, hd2, h, _⟩ := h
 obtain ⟨g3, t3, cs3, fu3, p3, q3, hg3, ht3, hv3, hd3, _⟩ := h
 obtain rfl : g1 = 2 := Option.some.inj (hg1.symm.trans (show Tryz.prog.globalNamed "assent/assentref02.adds" = some 2 by kernel_rfl))
 obtain rfl : g2 = 4 := Option.some.inj (hg2.symm.trans (show Tryz.prog.globalNamed "assent/digest.adds" = some 4 by kernel_rfl))
 obtain rfl : g3 = 3 := Option.some.inj (hg3.symm.trans (show Tryz.prog.globalNamed "assent/digest.begin" = some 3 by kernel_rfl))
 obtain rfl : t1 = 334 := Option.some.inj (ht1.symm.trans (show (Tryz.prog.globals[2]?).map (·.type) = some 334 by kernel_rfl))
 obtain rfl : t2 = 334 := Option.some.inj (ht2.symm.trans (show (Tryz.prog.globals[4]?).map (·.type) = some 334 by kernel_rfl))
 obtain rfl : t3 = 320 := Option.some.inj (ht3.symm.trans (show (Tryz.prog.globals[3]?).map (·.type) = some 320 by kernel_rfl))
 rw [adds1] at hd1
 rw [adds2] at hd2
 rw [beg] at hd3
 exact ⟨laid_ints hg1 Tryz.underlying334 Tryz.underlying65 (by kernel_rfl) (by kernel_rfl) (by decide) hv1 hd1, laid_ints hg3 Tryz.underlying320 Tryz.underlying65 (by kernel_rfl) (by kernel_rfl) (by decide) hv3 hd3, laid_ints hg2 Tryz.underlying334 Tryz.underlying65 (by kernel_rfl) (by kernel_rfl) (by decide) hv2 hd2⟩
theorem u64_of {av : AV} (h : wfA tb2 6 39 av) : av = .v (.int .u64 av.int1) ∧ av.one = true := by
 unfold wfA at h
 obtain ⟨x, rfl, _⟩ := (h : ∃ x, av = .v (.int .u64 x) ∧ (Lit.int .u64 x).wf = true)
 exact ⟨rfl, rfl⟩
theorem one_le {H : Type} (d : DataW H) : 1 ≤ Rows.uptoBulk d := by
 cases d with
 | lit l => cases l <;> simp [Rows.uptoBulk]
 | nil => simp [Rows.uptoBulk]
 | ptr d => simp [Rows.uptoBulk]
 | slice elems spare => simp [Rows.uptoBulk]
 | agg parts => simp [Rows.uptoBulk]
 | iface t d => simp [Rows.uptoBulk]
 | map entries => simp [Rows.uptoBulk]
 | held h => simp [Rows.uptoBulk]
theorem length_le {H : Type} (l : List (DataW H)) : l.length ≤ Rows.uptoBulkAll l := by
 induction l with
 | nil => simp [Rows.uptoBulkAll]
 | cons x r ih => have := one_le x; simp only [Rows.uptoBulkAll, List.length_cons]; omega
theorem slice_le {H : Type} (elems spare : List (DataW H)) : elems.length ≤ Rows.uptoBulk (.slice elems spare) := by
 have h1 := length_le elems
 simp only [Rows.uptoBulk]
 omega
theorem mem_le {H : Type} {l : List (DataW H)} {d : DataW H} (h : d ∈ l) : Rows.uptoBulk d ≤ Rows.uptoBulkAll l := by
 induction l with
 | nil => cases h
 | cons x r ih =>
  simp only [Rows.uptoBulkAll]
  rcases List.mem_cons.1 h with rfl | h
  ·
   omega
  ·
   have := ih h; omega
theorem step_bulk {H : Type} {enc : TypeId × Value → H} {W : World} {base fu : Nat} {Y : StpV} {d : DataW H} {pl : List MemPlace} (h : DataW.trod enc Tryz.prog W base (fun _ => true) true fu 135 (encP7 Y).cells = some (d, pl)) : Y.n ≤ Rows.uptoBulk d := by
 obtain ⟨xs, n, _, hx, _, hl, hf⟩ := DataW.trod_struct Tryz.underlying135 h
 obtain ⟨rfl, rfl⟩ := Prod.mk.inj hx
 have hl : xs.length = 4 := hl
 have h3 := hf 3 _ rfl
 rw [List.getElem?_eq_getElem (by omega : 3 < xs.length)] at h3
 have h3 : DataW.trod enc Tryz.prog W base (fun _ => true) true n 86 [.slice Y.a Y.n Y.c] = some xs[3] := h3
 have h4 : Y.n ≤ Rows.uptoBulk (xs[3]).1 := by
  rcases Go.Deep.open_slice Tryz.underlying86 h3 with ⟨h0, _⟩ | ⟨a, len, cap, m, n', D, Pl, hv, _, _, _, _, hxx, _⟩
  ·
   injection h0 with h0
   injection h0 with _ h0 _
   rw [h0]; exact Nat.zero_le _
  ·
   injection hv with hv
   injection hv with _ hv _
   rw [hv, hxx]
   have := slice_le ((List.range len).map D) ((List.range (m - len)).map fun j => D (len + j))
   rw [List.length_map, List.length_range] at this
   exact this
 have h5 : (xs[3]).1 ∈ xs.map (·.1) := List.mem_map_of_mem (List.getElem_mem _)
 have h6 := mem_le h5
 simp only [Rows.uptoBulk]
 omega
theorem top_le {H : Type} {n : Nat} {d : DataW H} (h : n ≠ 0 → ∃ (D : Nat → DataW H) (sp : List (DataW H)), d = .slice ((List.range n).map D) sp) (hb : Rows.uptoBulk d ≤ 1048576) : n ≤ 1048576 := by
 rcases Nat.eq_zero_or_pos n with e | e
 ·
  omega
 obtain ⟨D, sp, hd⟩ := h (by omega)
 have := slice_le ((List.range n).map D) sp
 rw [← hd, List.length_map, List.length_range] at this
 omega
theorem contract (H : Type) (enc : TypeId × Value → H) (W : World) (base : Nat) (args : Array Value) (ds gs : List (DataW H)) (before : List MemPlace)
  (hval0 : ∀ (j : Nat) t v, Tryz.f7.params[j]? = some t → args[j]? = some v → Value.okWide Tryz.prog W .any base t v)
  (hW : DataW.Whole enc Tryz.prog Tryz.f7.params.toList Rows.misdeedPoolsSpec.vars false W args.toList ds gs before) (hk : Rows.uptoSmall H (ds ++ gs) = true) (hL : laidMetH Tryz.prog laid3 W) :
  Calls Tryz.prog 7 args W fun e W' => ∃ v, e = .returned v ∧ Rows.misdeedPoolsSpec.post enc Tryz.prog Tryz.f7 false true false false W args v W' := by
 have hval : ∀ (j : Nat) t v, Tryz.f7.params[j]? = some t → args[j]? = some v → Value.okWide Tryz.prog W .any base t v := hval0
 have hW' := hW
 obtain ⟨p, q, hA0, hV, rfl, hfz, hnd⟩ := hW
 have hA : DataW.TrodAll enc Tryz.prog W 0 (fun _ => true) true Tryz.f7.params.toList args.toList ds p := hA0
 rw [Tryz.params7] at hA hval
 obtain ⟨v0, v1, v2, v3, d0, d1, d2, d3, p0, p1, p2, p3, rfl, rfl, rfl, h0, h1, h2, h3⟩ := trodAll_four hA
 obtain ⟨rfl, rfl⟩ := trodVars_none hV
 have hbulk : Rows.uptoBulkAll ([d0, d1, d2, d3] ++ ([] : List (DataW H))) ≤ 1048576 := of_decide_eq_true hk
 simp only [List.append_nil, Rows.uptoBulkAll] at hbulk
 have ok0 := hval 0 129 v0 rfl rfl
 have ok1 := hval 1 38 v1 rfl rfl
 have ok2 := hval 2 130 v2 rfl rfl
 have ok3 := hval 3 131 v3 rfl rfl
 obtain ⟨a0, len0, cap0, rfl⟩ := okWide_slice Tryz.underlying129 ok0
 obtain ⟨a, len, cap, rfl⟩ := okWide_slice Tryz.underlying38 ok1
 obtain ⟨a2, len2, cap2, rfl⟩ := okWide_slice Tryz.underlying130 ok2
 obtain ⟨a3, len3, cap3, rfl⟩ := okWide_slice Tryz.underlying131 ok3
 have ok0c : Cell.okWide Tryz.prog W .any base 129 (.slice a0 len0 cap0) := by simpa only [Value.okWide, Tryz.underlying129] using ok0
 have ok1c : Cell.okWide Tryz.prog W .any base 38 (.slice a len cap) := by simpa only [Value.okWide, Tryz.underlying38] using ok1
 have ok2c : Cell.okWide Tryz.prog W .any base 130 (.slice a2 len2 cap2) := by simpa only [Value.okWide, Tryz.underlying130] using ok2
 have ok3c : Cell.okWide Tryz.prog W .any base 131 (.slice a3 len3 cap3) := by simpa only [Value.okWide, Tryz.underlying131] using ok3
 obtain ⟨fu0, h0⟩ := h0
 obtain ⟨fu1, h1⟩ := h1
 obtain ⟨fu2, h2⟩ := h2
 obtain ⟨fu3, h3⟩ := h3
 obtain ⟨b0, ns, caps, SS, hv0, hrs, hQS, hD0⟩ := open129 ok0c h0
 obtain ⟨b1, n, cap1, f, hv, hl, hm, hfw, hfr, hD⟩ := open_slv tb2_ok Tryz.underlying38 (re := row39) rfl deep39 ok1c h1
 obtain ⟨b2, np, capp, T, hv2, hrp, hT, hD2⟩ := openT ok2c h2
 obtain ⟨b3, ny, capy, Y, DY, spY, hv3, hry, hQY, hD3⟩ := open131 ok3c h3
 rw [hv0, hv, hv2, hv3]
 have hro : (roB b1 1 n fun i => .v (.int .u64 (f i).int1)).holds W := open_roB (fun i hi => (hfw i hi).2) (fun i hi => (u64_of (hfw i hi).1).2) hfr (fun i hi => (u64_of (hfw i hi).1).1)
 have hns : ns ≤ 1048576 := top_le hD0 (by show Rows.uptoBulk d0 ≤ _; omega)
 have hn : n ≤ 1048576 := top_le hD (by show Rows.uptoBulk d1 ≤ _; omega)
 have hnp : np ≤ 1048576 := top_le hD2 (by show Rows.uptoBulk d2 ≤ _; omega)
 have hny : ny ≤ 1048576 := top_le (fun h => ⟨DY, spY, hD3 h⟩) (by show Rows.uptoBulk d3 ≤ _; omega)
 obtain ⟨base1, base2, base3, base4, l1, l2, l3, l4, f1, f2, f3, f4, u1, u2, u3, u4, hS, hP⟩ := came_inS enc W 0
 obtain ⟨k2, k3, k4⟩ := laid_is hL
 have hY : ∀ i, i < ny → StpOk base4 l4 f4 (Y i) := fun i hi => by
  obtain ⟨r1, r2, q9, fu, pl, h9⟩ := hQY i hi
  refine hP _ r1 r2 q9 (Nat.le_trans (step_bulk h9) ?_)
  have hd : d3 = .slice ((List.range ny).map DY) spY := hD3 (by omega)
  have h10 : Rows.uptoBulk (DY i) ≤ Rows.uptoBulkAll ((List.range ny).map DY) := mem_le (List.mem_map_of_mem (List.mem_range.2 hi))
  have h11 : Rows.uptoBulk d3 = Rows.uptoBulkAll ((List.range ny).map DY) + Rows.uptoBulkAll spY + 1 := by rw [hd]; simp only [Rows.uptoBulk]
  omega
 have hw := pools_calls SS T Y (cap := cap1) (caps := caps) (capp := capp) (capy := capy) hns hrs (fun i hi => hS _ (hQS i hi).1 (hQS i hi).2) (Nat.le_trans hn (by decide)) hro hnp hrp hT hny hry hY u1 u2 u3 u4 k2 k3 k4
 rw [show ([roS 945 b0 55 ns caps, roS 920 b1 1 n cap1, roS 930 b2 109 np capp, roS 940 b3 4 ny capy].map AV.val).toArray = #[slV b0 ns caps, slV b1 n cap1, slV b2 np capp, slV b3 ny capy] by simp only [List.map_cons, List.map_nil, roS_val]] at hw
 refine hw.mono fun e W' ⟨he, hb⟩ => ?_
 subst he
 rw [hv0, hv, hv2, hv3] at hW'
 exact ⟨_, rfl, post_below (by kernel_rfl) (by decide +kernel) hW' rfl (fun _ _ _ => (trodAll_cons_mk (shut_bool Tryz.underlying4 _) trodAll_mk0)) rfl rfl hb (ok_one (by kernel_rfl) rfl (okWide_bool_mk Tryz.underlying4 _))⟩
theorem lifted (os : Os) (started : os.Started) (H : Type) (enc : TypeId × Value → H) (F : Stop.Interp) :
  ReturnsInHanded {} Tryz.checked os 7 .any (fun w args => ((Rows.OpenSpec.upto Rows.misdeedPoolsSpec).pre enc Tryz.prog Tryz.f7 [] false w args ∧ laidMetH Tryz.prog laid3 w) ∧ sizedMet enc Tryz.prog Tryz.f7 (Rows.OpenSpec.upto Rows.misdeedPoolsSpec) false w args)
   (((Rows.OpenSpec.upto Rows.misdeedPoolsSpec).at F).post enc Tryz.prog Tryz.f7 false true false false) := by
 refine handed_of_cond_and (C := Tryz.checked) (s := Rows.OpenSpec.upto Rows.misdeedPoolsSpec) (k := Rows.uptoSmall) rfl (X := fun w _ => laidMetH Tryz.prog laid3 w) (fun _ _ _ hh h => h.of_heap hh) own started (by kernel_rfl) Tryz.func7
  (cond_witness (enc := enc) (C := Tryz.checked) (os := os) (s := Rows.OpenSpec.upto Rows.misdeedPoolsSpec) (k := Rows.uptoSmall) rfl (X := fun w _ => laidMetH Tryz.prog laid3 w) false (World.doorLaid Tryz.prog 4000 os) #[.slice none 0 0, .slice none 0 0, .slice none 0 0, .slice none 0 0] 8 rfl (World.shaped_of_RefB (by kernel_rfl) (by kernel_rfl)) (by kernel_rfl)
   (x := ([.nil, .nil, .nil, .nil], [], [])) (by kernel_rfl) rfl (by kernel_rfl) (by kernel_rfl) (door_met os _)) ?_
 intro W base args ds gs before hval hW hk hL
 exact contract H enc W base args ds gs before hval hW hk hL
end Go.Proofs.YtofophjfgalhaaaGreatDoor.misdeedPools

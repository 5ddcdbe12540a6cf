/- SEM (chapter 3): the runs behind 'shown'. -/
import Derived.Test.YtolebnomgllgaaaGreatDoorSgB
import Derived.Test.YtolebnomgllgaaaGreatDoorSyS38
set_option linter.unusedVariables false
namespace Go.SYG
open Go Go.SY Go.Proofs Go.RowKit
noncomputable section
def lvs : List (Nat × Nat × Sig) := [(75, 75, g75), (227, 227, g227), (182, 182, g182), (147, 147, g147), (142, 142, g142), (135, 135, g135), (177, 177, g177), (257, 257, g257), (139, 139, g139), (31, 31, g31), (54, 54, g54)]
noncomputable def lv : Lv := lvOf tab 1000 400 lvs
theorem lv_ok : LvOk X lv := lvOf_ok fun e he => by
  rcases List.mem_cons.1 he with rfl | he
  · exact ⟨rfl, fam 400 m75 (.tail _ (.tail _ (.tail _ (.tail _ (.tail _ (.tail _ (.tail _ (.tail _ (.tail _ (.tail _ (.tail _ (.tail _ (.tail _ (.tail _ (.tail _ (.tail _ (.tail _ (.tail _ (.tail _ (.tail _ (.tail _ (.tail _ (.tail _ (.head _))))))))))))))))))))))))⟩
  rcases List.mem_cons.1 he with rfl | he
  · exact ⟨rfl, fam 400 m227 (.tail _ (.tail _ (.tail _ (.tail _ (.tail _ (.tail _ (.tail _ (.tail _ (.tail _ (.tail _ (.tail _ (.tail _ (.tail _ (.tail _ (.tail _ (.tail _ (.tail _ (.tail _ (.tail _ (.tail _ (.tail _ (.tail _ (.tail _ (.tail _ (.tail _ (.tail _ (.tail _ (.tail _ (.tail _ (.tail _ (.tail _ (.tail _ (.tail _ (.head _))))))))))))))))))))))))))))))))))⟩
  rcases List.mem_cons.1 he with rfl | he
  · exact ⟨rfl, fam 400 m182 (.tail _ (.tail _ (.tail _ (.tail _ (.tail _ (.tail _ (.tail _ (.tail _ (.tail _ (.tail _ (.tail _ (.tail _ (.tail _ (.tail _ (.tail _ (.tail _ (.tail _ (.tail _ (.tail _ (.tail _ (.tail _ (.tail _ (.tail _ (.tail _ (.tail _ (.tail _ (.tail _ (.tail _ (.tail _ (.tail _ (.tail _ (.tail _ (.tail _ (.tail _ (.tail _ (.tail _ (.head _)))))))))))))))))))))))))))))))))))))⟩
  rcases List.mem_cons.1 he with rfl | he
  · exact ⟨rfl, fam 400 m147 (.tail _ (.tail _ (.tail _ (.tail _ (.tail _ (.tail _ (.tail _ (.tail _ (.tail _ (.tail _ (.tail _ (.tail _ (.tail _ (.tail _ (.tail _ (.tail _ (.tail _ (.tail _ (.tail _ (.tail _ (.tail _ (.tail _ (.tail _ (.tail _ (.tail _ (.tail _ (.tail _ (.tail _ (.tail _ (.tail _ (.tail _ (.tail _ (.tail _ (.tail _ (.tail _ (.tail _ (.tail _ (.head _))))))))))))))))))))))))))))))))))))))⟩
  rcases List.mem_cons.1 he with rfl | he
  · exact ⟨rfl, fam 400 m142 (.tail _ (.tail _ (.tail _ (.tail _ (.tail _ (.tail _ (.tail _ (.tail _ (.tail _ (.tail _ (.tail _ (.tail _ (.tail _ (.tail _ (.tail _ (.tail _ (.tail _ (.tail _ (.tail _ (.tail _ (.tail _ (.tail _ (.tail _ (.tail _ (.tail _ (.tail _ (.tail _ (.tail _ (.tail _ (.tail _ (.tail _ (.tail _ (.tail _ (.tail _ (.tail _ (.tail _ (.tail _ (.tail _ (.head _)))))))))))))))))))))))))))))))))))))))⟩
  rcases List.mem_cons.1 he with rfl | he
  · exact ⟨rfl, fam 400 m135 (.tail _ (.tail _ (.tail _ (.tail _ (.tail _ (.tail _ (.tail _ (.tail _ (.tail _ (.tail _ (.tail _ (.tail _ (.tail _ (.tail _ (.tail _ (.tail _ (.tail _ (.tail _ (.tail _ (.tail _ (.tail _ (.tail _ (.tail _ (.tail _ (.tail _ (.tail _ (.tail _ (.tail _ (.tail _ (.tail _ (.tail _ (.tail _ (.tail _ (.tail _ (.tail _ (.tail _ (.tail _ (.tail _ (.tail _ (.head _))))))))))))))))))))))))))))))))))))))))⟩
  rcases List.mem_cons.1 he with rfl | he
  · exact ⟨rfl, fam 400 m177 (.tail _ (.tail _ (.tail _ (.tail _ (.tail _ (.tail _ (.tail _ (.tail _ (.tail _ (.tail _ (.tail _ (.tail _ (.tail _ (.tail _ (.tail _ (.tail _ (.tail _ (.tail _ (.tail _ (.tail _ (.tail _ (.tail _ (.tail _ (.tail _ (.tail _ (.tail _ (.tail _ (.tail _ (.tail _ (.tail _ (.tail _ (.tail _ (.tail _ (.tail _ (.tail _ (.tail _ (.tail _ (.tail _ (.tail _ (.tail _ (.head _)))))))))))))))))))))))))))))))))))))))))⟩
  rcases List.mem_cons.1 he with rfl | he
  · exact ⟨rfl, fam 400 m257 (.tail _ (.tail _ (.tail _ (.tail _ (.tail _ (.tail _ (.tail _ (.tail _ (.tail _ (.tail _ (.tail _ (.tail _ (.tail _ (.tail _ (.tail _ (.tail _ (.tail _ (.tail _ (.tail _ (.tail _ (.tail _ (.tail _ (.tail _ (.tail _ (.tail _ (.tail _ (.tail _ (.tail _ (.tail _ (.tail _ (.tail _ (.tail _ (.tail _ (.tail _ (.tail _ (.tail _ (.tail _ (.tail _ (.tail _ (.tail _ (.tail _ (.head _))))))))))))))))))))))))))))))))))))))))))⟩
  rcases List.mem_cons.1 he with rfl | he
  · exact ⟨rfl, fam 400 m139 (.tail _ (.tail _ (.tail _ (.tail _ (.tail _ (.tail _ (.tail _ (.tail _ (.tail _ (.tail _ (.tail _ (.tail _ (.tail _ (.tail _ (.tail _ (.tail _ (.tail _ (.tail _ (.tail _ (.tail _ (.tail _ (.tail _ (.tail _ (.tail _ (.tail _ (.tail _ (.tail _ (.tail _ (.tail _ (.tail _ (.tail _ (.tail _ (.tail _ (.tail _ (.tail _ (.tail _ (.tail _ (.tail _ (.tail _ (.tail _ (.tail _ (.tail _ (.head _)))))))))))))))))))))))))))))))))))))))))))⟩
  rcases List.mem_cons.1 he with rfl | he
  · exact ⟨rfl, fam 400 m31 (.tail _ (.tail _ (.tail _ (.tail _ (.tail _ (.tail _ (.tail _ (.tail _ (.tail _ (.tail _ (.tail _ (.tail _ (.tail _ (.tail _ (.tail _ (.tail _ (.tail _ (.tail _ (.tail _ (.tail _ (.tail _ (.tail _ (.tail _ (.tail _ (.tail _ (.tail _ (.tail _ (.tail _ (.tail _ (.tail _ (.tail _ (.tail _ (.tail _ (.tail _ (.tail _ (.tail _ (.tail _ (.tail _ (.tail _ (.tail _ (.tail _ (.tail _ (.tail _ (.head _))))))))))))))))))))))))))))))))))))))))))))⟩
  rcases List.mem_cons.1 he with rfl | he
  · exact ⟨rfl, fam 400 m54 (.tail _ (.tail _ (.tail _ (.tail _ (.tail _ (.tail _ (.tail _ (.tail _ (.tail _ (.tail _ (.tail _ (.tail _ (.tail _ (.tail _ (.tail _ (.tail _ (.tail _ (.tail _ (.tail _ (.tail _ (.tail _ (.tail _ (.tail _ (.tail _ (.tail _ (.tail _ (.tail _ (.tail _ (.tail _ (.tail _ (.tail _ (.tail _ (.tail _ (.tail _ (.tail _ (.tail _ (.tail _ (.tail _ (.tail _ (.tail _ (.tail _ (.tail _ (.tail _ (.tail _ (.tail _ (.head _))))))))))))))))))))))))))))))))))))))))))))))⟩
  · exact nomatch he
abbrev L (t : Nat) (x : Dt) : Sh := .lit t x
abbrev E0s (e : Nat × Nat × Sig) : Prop := Ent X (e.1, e.2.1, e.2.2, s0)
theorem none_ok : ∀ e ∈ ([] : List (Nat × Nat × Sig)), E0s e := fun _ h => nomatch h
theorem cons_ok {e : Nat × Nat × Sig} {l : List (Nat × Nat × Sig)} (h : E0s e) (hl : ∀ x ∈ l, E0s x) : ∀ x ∈ e :: l, E0s x := fun x hx => by
  rcases List.mem_cons.1 hx with rfl | hx
  · exact h
  · exact hl x hx
noncomputable abbrev rn (l : List (Nat × Nat × Sig)) (f : Nat) (sig : Sig) : Option (Nat × List Dt) := (sxFunc (X.cfgL (lits l) unAll noOw true lv) 400 f sig).ev (fe0 (l.map (·.2.1))) 1 ⟨[], 0⟩
noncomputable abbrev rnP (l : List (Nat × Nat × Sig)) (f : Nat) (sig : Sig) : Option (Nat × List Dt) := (sxFuncP (X.cfgP (lits l) unAll noOw true lv) 400 f sig 2 1).ev (fe0 (l.map (·.2.1))) 1 ⟨[], 0⟩
def P0 : Dt := (.tup [.nil, (.row [(.tup [(.byt [109, 97, 105, 110]), .nil, (.num 0), (.row [(.tup [(.num 5), (.byt []), (.tup [(.num 0), (.num 0)]), (.row [(.tup [(.num 8), (.num 2), (.num 0), (.byt []), (.row [(.tup [(.num 1), (.num 0), (.num 7), (.byt []), .nil]), (.tup [(.num 1), (.num 0), (.num 2), (.byt []), .nil])])])]), (.num 0), .nil, .nil]), (.tup [(.num 5), (.byt []), (.tup [(.num 0), (.num 0)]), (.row [(.tup [(.num 8), (.num 3), (.num 0), (.byt []), (.row [(.tup [(.num 7), (.num 1), (.num 0), (.byt []), (.row [(.tup [(.num 1), (.num 0), (.num 7), (.byt []), .nil])])]), (.tup [(.num 1), (.num 0), (.num 2), (.byt []), .nil])])])]), (.num 0), .nil, .nil]), (.tup [(.num 5), (.byt []), (.tup [(.num 0), (.num 0)]), (.row [(.tup [(.num 8), (.num 4), (.num 0), (.byt []), (.row [(.tup [(.num 2), (.num 0), (.num 200), (.byt []), .nil]), (.tup [(.num 2), (.num 0), (.num 100), (.byt []), .nil])])])]), (.num 0), .nil, .nil]), (.tup [(.num 5), (.byt []), (.tup [(.num 0), (.num 0)]), (.row [(.tup [(.num 8), (.num 5), (.num 0), (.byt []), (.row [(.tup [(.num 7), (.num 1), (.num 0), (.byt []), (.row [(.tup [(.num 1), (.num 0), (.num 9223372036854775807), (.byt []), .nil])])]), (.tup [(.num 1), (.num 0), (.num 2), (.byt []), .nil])])])]), (.num 0), .nil, .nil])])])])])
def a0 : Nat × Nat × Sig := (137, 13700, ⟨[L 60 P0, L 4 (.tru false)], [], ⟨[], []⟩, none⟩)
def b0 : Nat × Nat × Sig := (137, 13701, ⟨[L 60 P0, L 4 (.tru true)], [], ⟨[], []⟩, none⟩)
def c0 : Nat × Nat × Sig := (86, 86, ⟨[L 60 P0], [], ⟨[L 152 (.tup [.num 0, .nil]), L 24 (.num 0)], []⟩, none⟩)
def d0 : Nat × Nat × Sig := (52, 5200, ⟨[L 60 P0, L 3 (.num 1000)], [.gone], ⟨[L 33 (.tup [(.row [(.num 3), (.num (-1)), (.num 44), (.num 9223372036854775807)]), (.num 1), (.num 0)]), L 3 (.num 18), L 55 .nil, L 24 (.num 0)], [.gone]⟩, none⟩)
theorem ra0 : rn [] 137 a0.2.2 = some (0, []) := by kernel_rfl
theorem ea0 : E0s a0 := ent_run XOk rfl none_ok lv_ok ra0
theorem rb0 : rn [] 137 b0.2.2 = some (0, []) := by kernel_rfl
theorem eb0 : E0s b0 := ent_run XOk rfl none_ok lv_ok rb0
theorem rc0 : rn [a0, b0] 86 c0.2.2 = some (0, []) := by kernel_rfl
theorem ec0 : E0s c0 := ent_run XOk rfl (cons_ok ea0 (cons_ok eb0 none_ok)) lv_ok rc0
theorem rd0 : rnP [c0] 52 d0.2.2 = some (0, []) := by kernel_rfl
theorem ed0 : E0s d0 := ent_runP XOk rfl (cons_ok ec0 none_ok) lv_ok dD_ok rfl rfl rd0
def P1 : Dt := (.tup [.nil, (.row [(.tup [(.byt [109, 97, 105, 110]), .nil, (.num 0), (.row [(.tup [(.num 5), (.byt []), (.tup [(.num 0), (.num 0)]), (.row [(.tup [(.num 1), (.num 0), (.num 1), (.byt []), .nil])]), (.num 0), .nil, .nil]), (.tup [(.num 5), (.byt []), (.tup [(.num 0), (.num 0)]), (.row [(.tup [(.num 8), (.num 2), (.num 0), (.byt []), (.row [(.tup [(.num 1), (.num 0), (.num 1), (.byt []), .nil]), (.tup [(.num 1), (.num 0), (.num 0), (.byt []), .nil])])])]), (.num 0), .nil, .nil])])])])])
def a1 : Nat × Nat × Sig := (137, 13700, ⟨[L 60 P1, L 4 (.tru false)], [], ⟨[], []⟩, none⟩)
def b1 : Nat × Nat × Sig := (137, 13701, ⟨[L 60 P1, L 4 (.tru true)], [], ⟨[], []⟩, none⟩)
def c1 : Nat × Nat × Sig := (86, 86, ⟨[L 60 P1], [], ⟨[L 152 (.tup [.num 0, .nil]), L 24 (.num 0)], []⟩, none⟩)
def d1 : Nat × Nat × Sig := (52, 5201, ⟨[L 60 P1, L 3 (.num 1000)], [.gone], ⟨[L 33 (.tup [(.row [(.num 1)]), (.num 2), (.num 1)]), L 3 (.num 6), L 55 (.row [(.num 0), (.num 1), (.num 2)]), L 24 (.num 0)], [.gone]⟩, none⟩)
theorem ra1 : rn [] 137 a1.2.2 = some (0, []) := by kernel_rfl
theorem ea1 : E0s a1 := ent_run XOk rfl none_ok lv_ok ra1
theorem rb1 : rn [] 137 b1.2.2 = some (0, []) := by kernel_rfl
theorem eb1 : E0s b1 := ent_run XOk rfl none_ok lv_ok rb1
theorem rc1 : rn [a1, b1] 86 c1.2.2 = some (0, []) := by kernel_rfl
theorem ec1 : E0s c1 := ent_run XOk rfl (cons_ok ea1 (cons_ok eb1 none_ok)) lv_ok rc1
theorem rd1 : rnP [c1] 52 d1.2.2 = some (0, []) := by kernel_rfl
theorem ed1 : E0s d1 := ent_runP XOk rfl (cons_ok ec1 none_ok) lv_ok dD_ok rfl rfl rd1
def P2 : Dt := (.tup [.nil, (.row [(.tup [(.byt [109, 97, 105, 110]), .nil, (.num 0), (.row [(.tup [(.num 5), (.byt []), (.tup [(.num 0), (.num 0)]), (.row [(.tup [(.num 8), (.num 6), (.num 0), (.byt []), (.row [(.tup [(.num 1), (.num 0), (.num 1), (.byt []), .nil]), (.tup [(.num 1), (.num 0), (.num 64), (.byt []), .nil])])])]), (.num 0), .nil, .nil])])])])])
def a2 : Nat × Nat × Sig := (137, 13700, ⟨[L 60 P2, L 4 (.tru false)], [], ⟨[], []⟩, none⟩)
def b2 : Nat × Nat × Sig := (137, 13701, ⟨[L 60 P2, L 4 (.tru true)], [], ⟨[], []⟩, none⟩)
def c2 : Nat × Nat × Sig := (86, 86, ⟨[L 60 P2], [], ⟨[L 152 (.tup [.num 0, .nil]), L 24 (.num 0)], []⟩, none⟩)
def d2 : Nat × Nat × Sig := (52, 5202, ⟨[L 60 P2, L 3 (.num 1000)], [.gone], ⟨[L 33 (.tup [.nil, (.num 3), (.num 1)]), L 3 (.num 4), L 55 (.row [(.num 0), (.num 0), (.num 2)]), L 24 (.num 0)], [.gone]⟩, none⟩)
theorem ra2 : rn [] 137 a2.2.2 = some (0, []) := by kernel_rfl
theorem ea2 : E0s a2 := ent_run XOk rfl none_ok lv_ok ra2
theorem rb2 : rn [] 137 b2.2.2 = some (0, []) := by kernel_rfl
theorem eb2 : E0s b2 := ent_run XOk rfl none_ok lv_ok rb2
theorem rc2 : rn [a2, b2] 86 c2.2.2 = some (0, []) := by kernel_rfl
theorem ec2 : E0s c2 := ent_run XOk rfl (cons_ok ea2 (cons_ok eb2 none_ok)) lv_ok rc2
theorem rd2 : rnP [c2] 52 d2.2.2 = some (0, []) := by kernel_rfl
theorem ed2 : E0s d2 := ent_runP XOk rfl (cons_ok ec2 none_ok) lv_ok dD_ok rfl rfl rd2
def P3 : Dt := (.tup [.nil, (.row [(.tup [(.byt [109, 97, 105, 110]), .nil, (.num 0), (.row [(.tup [(.num 1), (.byt [110]), (.tup [(.num 1), (.num 0)]), (.row [(.tup [(.num 1), (.num 0), (.num 0), (.byt []), .nil])]), (.num 0), .nil, .nil]), (.tup [(.num 8), (.byt []), (.tup [(.num 0), (.num 0)]), (.row [(.tup [(.num 3), (.num 0), (.num 1), (.byt []), .nil])]), (.num 3), (.row [(.tup [(.num 2), (.byt [110]), (.tup [(.num 0), (.num 0)]), (.row [(.tup [(.num 8), (.num 4), (.num 0), (.byt []), (.row [(.tup [(.num 4), (.num 0), (.num 0), (.byt [110]), .nil]), (.tup [(.num 1), (.num 0), (.num 1), (.byt []), .nil])])])]), (.num 0), .nil, .nil])]), .nil]), (.tup [(.num 5), (.byt []), (.tup [(.num 0), (.num 0)]), (.row [(.tup [(.num 4), (.num 0), (.num 0), (.byt [110]), .nil])]), (.num 0), .nil, .nil])])])])])
def a3 : Nat × Nat × Sig := (137, 13700, ⟨[L 60 P3, L 4 (.tru false)], [], ⟨[], []⟩, none⟩)
def b3 : Nat × Nat × Sig := (137, 13701, ⟨[L 60 P3, L 4 (.tru true)], [], ⟨[], []⟩, none⟩)
def c3 : Nat × Nat × Sig := (86, 86, ⟨[L 60 P3], [], ⟨[L 152 (.tup [.num 0, .nil]), L 24 (.num 0)], []⟩, none⟩)
def d3 : Nat × Nat × Sig := (52, 5203, ⟨[L 60 P3, L 3 (.num 1000)], [.gone], ⟨[L 33 (.tup [(.row [(.num 3)]), (.num 1), (.num 0)]), L 3 (.num 21), L 55 .nil, L 24 (.num 0)], [.gone]⟩, none⟩)
theorem ra3 : rn [] 137 a3.2.2 = some (0, []) := by kernel_rfl
theorem ea3 : E0s a3 := ent_run XOk rfl none_ok lv_ok ra3
theorem rb3 : rn [] 137 b3.2.2 = some (0, []) := by kernel_rfl
theorem eb3 : E0s b3 := ent_run XOk rfl none_ok lv_ok rb3
theorem rc3 : rn [a3, b3] 86 c3.2.2 = some (0, []) := by kernel_rfl
theorem ec3 : E0s c3 := ent_run XOk rfl (cons_ok ea3 (cons_ok eb3 none_ok)) lv_ok rc3
theorem rd3 : rnP [c3] 52 d3.2.2 = some (0, []) := by kernel_rfl
theorem ed3 : E0s d3 := ent_runP XOk rfl (cons_ok ec3 none_ok) lv_ok dD_ok rfl rfl rd3
def P4 : Dt := (.tup [.nil, (.row [(.tup [(.byt [102]), (.row [(.tup [(.byt [97]), (.tup [(.num 1), (.num 2)])])]), (.num 0), (.row [(.tup [(.num 3), (.byt [97]), (.tup [(.num 0), (.num 0)]), (.row [(.tup [(.num 1), (.num 0), (.num 1), (.byt []), .nil]), (.tup [(.num 1), (.num 0), (.num 5), (.byt []), .nil])]), (.num 0), .nil, .nil])])]), (.tup [(.byt [109, 97, 105, 110]), .nil, (.num 0), (.row [(.tup [(.num 1), (.byt [98]), (.tup [(.num 1), (.num 2)]), .nil, (.num 0), .nil, .nil]), (.tup [(.num 4), (.byt []), (.tup [(.num 0), (.num 0)]), (.row [(.tup [(.num 6), (.num 0), (.num 0), (.byt [102]), (.row [(.tup [(.num 4), (.num 0), (.num 0), (.byt [98]), .nil])])])]), (.num 0), .nil, .nil]), (.tup [(.num 5), (.byt []), (.tup [(.num 0), (.num 0)]), (.row [(.tup [(.num 5), (.num 0), (.num 0), (.byt [98]), (.row [(.tup [(.num 1), (.num 0), (.num 1), (.byt []), .nil])])])]), (.num 0), .nil, .nil]), (.tup [(.num 1), (.byt [105]), (.tup [(.num 1), (.num 0)]), (.row [(.tup [(.num 1), (.num 0), (.num 2), (.byt []), .nil])]), (.num 0), .nil, .nil]), (.tup [(.num 3), (.byt [98]), (.tup [(.num 0), (.num 0)]), (.row [(.tup [(.num 4), (.num 0), (.num 0), (.byt [105]), .nil]), (.tup [(.num 8), (.num 2), (.num 0), (.byt []), (.row [(.tup [(.num 1), (.num 0), (.num 1), (.byt []), .nil]), (.tup [(.num 1), (.num 0), (.num 0), (.byt []), .nil])])])]), (.num 0), .nil, .nil])])])])])
def a4 : Nat × Nat × Sig := (137, 13700, ⟨[L 60 P4, L 4 (.tru false)], [], ⟨[], []⟩, none⟩)
def b4 : Nat × Nat × Sig := (137, 13701, ⟨[L 60 P4, L 4 (.tru true)], [], ⟨[], []⟩, none⟩)
def c4 : Nat × Nat × Sig := (86, 86, ⟨[L 60 P4], [], ⟨[L 152 (.tup [.num 0, .nil]), L 24 (.num 0)], []⟩, none⟩)
def d4 : Nat × Nat × Sig := (52, 5204, ⟨[L 60 P4, L 3 (.num 1000)], [.gone], ⟨[L 33 (.tup [(.row [(.num 5)]), (.num 2), (.num 1)]), L 3 (.num 17), L 55 (.row [(.num 1), (.num 4), (.num 3)]), L 24 (.num 0)], [.gone]⟩, none⟩)
theorem ra4 : rn [] 137 a4.2.2 = some (0, []) := by kernel_rfl
theorem ea4 : E0s a4 := ent_run XOk rfl none_ok lv_ok ra4
theorem rb4 : rn [] 137 b4.2.2 = some (0, []) := by kernel_rfl
theorem eb4 : E0s b4 := ent_run XOk rfl none_ok lv_ok rb4
theorem rc4 : rn [a4, b4] 86 c4.2.2 = some (0, []) := by kernel_rfl
theorem ec4 : E0s c4 := ent_run XOk rfl (cons_ok ea4 (cons_ok eb4 none_ok)) lv_ok rc4
theorem rd4 : rnP [c4] 52 d4.2.2 = some (0, []) := by kernel_rfl
theorem ed4 : E0s d4 := ent_runP XOk rfl (cons_ok ec4 none_ok) lv_ok dD_ok rfl rfl rd4
def S0 : Dt := .byt [102, 117, 110, 99, 32, 109, 97, 105, 110, 40, 41, 32, 123, 32, 112, 114, 105, 110, 116, 32, 55, 32, 47, 32, 50, 59, 32, 112, 114, 105, 110, 116, 32, 45, 55, 32, 37, 32, 50, 59, 32, 112, 114, 105, 110, 116, 32, 50, 48, 48, 115, 32, 43, 32, 49, 48, 48, 115, 59, 32, 112, 114, 105, 110, 116, 32, 45, 57, 50, 50, 51, 51, 55, 50, 48, 51, 54, 56, 53, 52, 55, 55, 53, 56, 48, 55, 32, 45, 32, 50, 59, 32, 125]
def p0 : Nat × Nat × Sig := (61, 6100, ⟨[L 9 S0], [], ⟨[L 60 P0, L 3 (.num 0), L 24 (.num 0)], []⟩, none⟩)
theorem rp0 : evFn tab 1000 400 61 [S0] = some [P0, .num 0, .num 0] := by kernel_rfl
theorem ep0 : E0s p0 := ⟨lit_con rfl (fam 400 m61 (.tail _ (.tail _ (.tail _ (.tail _ (.tail _ (.tail _ (.tail _ (.tail _ (.tail _ (.tail _ (.tail _ (.head _))))))))))))) rp0 rfl, s0_mono⟩
def f0 : Nat × Nat × Sig := (28, 2800, ⟨[L 9 S0, L 3 (.num 1), L 3 (.num 0), L 55 .nil, L 31 (.row [.num 3, .num (-1), .num 44, .num 9223372036854775807])], [], ⟨[L 4 (.tru true)], []⟩, none⟩)
theorem rf0 : rn [p0, d0] 28 f0.2.2 = some (0, []) := by kernel_rfl
theorem ef0 : E0s f0 := ent_run XOk rfl (cons_ok ep0 (cons_ok ed0 none_ok)) lv_ok rf0
def S1 : Dt := .byt [102, 117, 110, 99, 32, 109, 97, 105, 110, 40, 41, 32, 123, 32, 112, 114, 105, 110, 116, 32, 49, 59, 32, 112, 114, 105, 110, 116, 32, 49, 32, 47, 32, 48, 59, 32, 125]
def p1 : Nat × Nat × Sig := (61, 6100, ⟨[L 9 S1], [], ⟨[L 60 P1, L 3 (.num 0), L 24 (.num 0)], []⟩, none⟩)
theorem rp1 : evFn tab 1000 400 61 [S1] = some [P1, .num 0, .num 0] := by kernel_rfl
theorem ep1 : E0s p1 := ⟨lit_con rfl (fam 400 m61 (.tail _ (.tail _ (.tail _ (.tail _ (.tail _ (.tail _ (.tail _ (.tail _ (.tail _ (.tail _ (.tail _ (.head _))))))))))))) rp1 rfl, s0_mono⟩
def f1 : Nat × Nat × Sig := (28, 2801, ⟨[L 9 S1, L 3 (.num 2), L 3 (.num 1), L 55 (.row [.num 0, .num 1, .num 2]), L 31 (.row [.num 1])], [], ⟨[L 4 (.tru true)], []⟩, none⟩)
theorem rf1 : rn [p1, d1] 28 f1.2.2 = some (0, []) := by kernel_rfl
theorem ef1 : E0s f1 := ent_run XOk rfl (cons_ok ep1 (cons_ok ed1 none_ok)) lv_ok rf1
def S2 : Dt := .byt [102, 117, 110, 99, 32, 109, 97, 105, 110, 40, 41, 32, 123, 32, 112, 114, 105, 110, 116, 32, 49, 32, 60, 60, 32, 54, 52, 59, 32, 125]
def p2 : Nat × Nat × Sig := (61, 6100, ⟨[L 9 S2], [], ⟨[L 60 P2, L 3 (.num 0), L 24 (.num 0)], []⟩, none⟩)
theorem rp2 : evFn tab 1000 400 61 [S2] = some [P2, .num 0, .num 0] := by kernel_rfl
theorem ep2 : E0s p2 := ⟨lit_con rfl (fam 400 m61 (.tail _ (.tail _ (.tail _ (.tail _ (.tail _ (.tail _ (.tail _ (.tail _ (.tail _ (.tail _ (.tail _ (.head _))))))))))))) rp2 rfl, s0_mono⟩
def f2 : Nat × Nat × Sig := (28, 2802, ⟨[L 9 S2, L 3 (.num 3), L 3 (.num 1), L 55 (.row [.num 0, .num 0, .num 2]), L 31 .nil], [], ⟨[L 4 (.tru true)], []⟩, none⟩)
theorem rf2 : rn [p2, d2] 28 f2.2.2 = some (0, []) := by kernel_rfl
theorem ef2 : E0s f2 := ent_run XOk rfl (cons_ok ep2 (cons_ok ed2 none_ok)) lv_ok rf2
def S3 : Dt := .byt [102, 117, 110, 99, 32, 109, 97, 105, 110, 40, 41, 32, 123, 32, 108, 101, 116, 32, 110, 58, 32, 105, 110, 116, 32, 61, 32, 48, 59, 32, 119, 104, 105, 108, 101, 32, 116, 114, 117, 101, 32, 117, 112, 116, 111, 32, 51, 32, 123, 32, 110, 32, 61, 32, 110, 32, 43, 32, 49, 59, 32, 125, 32, 112, 114, 105, 110, 116, 32, 110, 59, 32, 125]
def p3 : Nat × Nat × Sig := (61, 6100, ⟨[L 9 S3], [], ⟨[L 60 P3, L 3 (.num 0), L 24 (.num 0)], []⟩, none⟩)
theorem rp3 : evFn tab 1000 400 61 [S3] = some [P3, .num 0, .num 0] := by kernel_rfl
theorem ep3 : E0s p3 := ⟨lit_con rfl (fam 400 m61 (.tail _ (.tail _ (.tail _ (.tail _ (.tail _ (.tail _ (.tail _ (.tail _ (.tail _ (.tail _ (.tail _ (.head _))))))))))))) rp3 rfl, s0_mono⟩
def f3 : Nat × Nat × Sig := (28, 2803, ⟨[L 9 S3, L 3 (.num 1), L 3 (.num 0), L 55 .nil, L 31 (.row [.num 3])], [], ⟨[L 4 (.tru true)], []⟩, none⟩)
theorem rf3 : rn [p3, d3] 28 f3.2.2 = some (0, []) := by kernel_rfl
theorem ef3 : E0s f3 := ent_run XOk rfl (cons_ok ep3 (cons_ok ed3 none_ok)) lv_ok rf3
def S4 : Dt := .byt [102, 117, 110, 99, 32, 102, 40, 97, 58, 32, 105, 110, 116, 91, 50, 93, 41, 32, 123, 32, 97, 91, 49, 93, 32, 61, 32, 53, 59, 32, 125, 32, 102, 117, 110, 99, 32, 109, 97, 105, 110, 40, 41, 32, 123, 32, 108, 101, 116, 32, 98, 58, 32, 105, 110, 116, 91, 50, 93, 59, 32, 102, 40, 98, 41, 59, 32, 112, 114, 105, 110, 116, 32, 98, 91, 49, 93, 59, 32, 108, 101, 116, 32, 105, 58, 32, 105, 110, 116, 32, 61, 32, 50, 59, 32, 98, 91, 105, 93, 32, 61, 32, 49, 32, 47, 32, 48, 59, 32, 125]
def p4 : Nat × Nat × Sig := (61, 6100, ⟨[L 9 S4], [], ⟨[L 60 P4, L 3 (.num 0), L 24 (.num 0)], []⟩, none⟩)
theorem rp4 : evFn tab 1000 400 61 [S4] = some [P4, .num 0, .num 0] := by kernel_rfl
theorem ep4 : E0s p4 := ⟨lit_con rfl (fam 400 m61 (.tail _ (.tail _ (.tail _ (.tail _ (.tail _ (.tail _ (.tail _ (.tail _ (.tail _ (.tail _ (.tail _ (.head _))))))))))))) rp4 rfl, s0_mono⟩
def f4 : Nat × Nat × Sig := (28, 2804, ⟨[L 9 S4, L 3 (.num 2), L 3 (.num 1), L 55 (.row [.num 1, .num 4, .num 3]), L 31 (.row [.num 5])], [], ⟨[L 4 (.tru true)], []⟩, none⟩)
theorem rf4 : rn [p4, d4] 28 f4.2.2 = some (0, []) := by kernel_rfl
theorem ef4 : E0s f4 := ent_run XOk rfl (cons_ok ep4 (cons_ok ed4 none_ok)) lv_ok rf4
def g10 : Nat × Nat × Sig := (10, 10, ⟨[], [], ⟨[L 4 (.tru true)], []⟩, none⟩)
theorem r10 : rn [f0, f1, f2, f3, f4] 10 g10.2.2 = some (0, []) := by kernel_rfl
theorem e10 : E0s g10 := ent_run XOk rfl (cons_ok ef0 (cons_ok ef1 (cons_ok ef2 (cons_ok ef3 (cons_ok ef4 (none_ok)))))) lv_ok r10
end
end Go.SYG

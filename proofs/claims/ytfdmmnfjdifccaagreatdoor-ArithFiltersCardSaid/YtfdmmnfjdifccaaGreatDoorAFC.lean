/- The versions that are reached, and that they are what the program comes to. -/
import Derived.Test.YtfdmmnfjdifccaaGreatDoorAs11
import Derived.Test.YtfdmmnfjdifccaaGreatDoorAs9
import Derived.Test.YtfdmmnfjdifccaaGreatDoorSh
import Derived.Test.YtfdmmnfjdifccaaGreatDoorAs10
import Derived.Test.YtfdmmnfjdifccaaGreatDoorProg
import Derived.KernelRfl
set_option linter.unusedVariables false
set_option linter.constructorNameAsVariable false
set_option maxRecDepth 100000
namespace Go.Proofs.YtfdmmnfjdifccaaGreatDoor
namespace Am
def modes : Nat → List Nat := fun v => match v with
  | 8 => [1]
  | 9 => [1]
  | 10 => [1, 1]
  | 12 => [1, 1]
  | 13 => [1]
  | 14 => [1, 1, 1]
  | 15 => [1, 1, 1, 1]
  | 21 => [1, 1]
  | 25 => [1, 1]
  | 26 => [1]
  | 27 => [1, 1]
  | 28 => [1, 1]
  | 30 => [1, 1, 1, 1]
  | 40 => [1]
  | 45 => [0, 2]
  | 49 => [1]
  | 50 => [1]
  | 51 => [1, 1, 1]
  | 52 => [1, 1, 1]
  | 58 => [1, 1, 1, 1]
  | 60 => [1]
  | 85 => [0, 2]
  | 89 => [1, 1, 1]
  | 90 => [1]
  | 91 => [1]
  | 94 => [0, 2]
  | 98 => [1]
  | 116 => [0, 2]
  | 120 => [0, 2]
  | 122 => [2, 0]
  | 126 => [0, 2]
  | 132 => [0, 2]
  | 135 => [0, 2]
  | 140 => [0, 2]
  | 145 => [0, 2]
  | 152 => [0, 2]
  | 155 => [1, 1]
  | 156 => [3, 0]
  | 159 => [0, 2]
  | 164 => [2, 0]
  | 165 => [2, 1]
  | 166 => [2]
  | 167 => [2]
  | 172 => [1]
  | 181 => [1, 1, 1, 1, 1]
  | 185 => [0, 2]
  | 189 => [0, 0, 2]
  | 192 => [0, 2]
  | 197 => [2]
  | 198 => [2, 0]
  | 212 => [1, 2]
  | 219 => [1, 2]
  | 236 => [0, 2]
  | 237 => [1]
  | 238 => [1]
  | 256 => [2]
  | 257 => [2]
  | 258 => [2]
  | 259 => [2]
  | 260 => [2]
  | 261 => [2]
  | 262 => [2]
  | 264 => [2]
  | _ => []
abbrev J (n : Int) : V := .i .i64 n
noncomputable abbrev cv (h : Hint) (f : Nat) (own : Bool) : Option Ver := cVer Tryz.prog id modes V0 h f own
@[irreducible] noncomputable def c38 : Ver := verD (cv nh 38 false)
theorem g38 : GV Tryz.prog modes c38 38 := .of (hint := nh) (own := false) (by kernel_rfl) (by kernel_rfl) (by kernel_rfl)
@[irreducible] noncomputable def c157 : Ver := verD (cv nh 157 false)
noncomputable def c157_l0 : C := atD c157.code [true, false, false, false]
theorem g157 : GV Tryz.prog modes c157 157 := .of (hint := nh) (own := false) (by kernel_rfl) (by kernel_rfl) (by kernel_rfl)
@[irreducible] noncomputable def c44 : Ver := verD (cv nh 44 false)
theorem g44 : GV Tryz.prog modes c44 44 := .of (hint := nh) (own := false) (by kernel_rfl) (by kernel_rfl) (by kernel_rfl)
@[irreducible] noncomputable def c47 : Ver := verD (cv nh 47 false)
theorem g47 : GV Tryz.prog modes c47 47 := .of (hint := nh) (own := false) (by kernel_rfl) (by kernel_rfl) (by kernel_rfl)
@[irreducible] noncomputable def c43 : Ver := verD (cv nh 43 false)
noncomputable def c43_l0 : C := atD c43.code [true, false, true, false, false]
theorem g43 : GV Tryz.prog modes c43 43 := .of (hint := nh) (own := false) (by kernel_rfl) (by kernel_rfl) (by kernel_rfl)
@[irreducible] noncomputable def c99 : Ver := verD (cv nh 99 false)
theorem g99 : GV Tryz.prog modes c99 99 := .of (hint := nh) (own := false) (by kernel_rfl) (by kernel_rfl) (by kernel_rfl)
@[irreducible] noncomputable def c100 : Ver := verD (cv nh 100 false)
theorem g100 : GV Tryz.prog modes c100 100 := .of (hint := nh) (own := false) (by kernel_rfl) (by kernel_rfl) (by kernel_rfl)
@[irreducible] noncomputable def c82 : Ver := verD (cv nh 82 false)
theorem g82 : GV Tryz.prog modes c82 82 := .of (hint := nh) (own := false) (by kernel_rfl) (by kernel_rfl) (by kernel_rfl)
@[irreducible] noncomputable def c113 : Ver := verD (cv (jh [7]) 113 false)
noncomputable def c113_j0 : C := atD c113.code [true, true, true, false, false]
theorem g113 : GV Tryz.prog modes c113 113 := .of (hint := (jh [7])) (own := false) (by kernel_rfl) (by kernel_rfl) (by kernel_rfl)
@[irreducible] noncomputable def c114 : Ver := verD (cv nh 114 false)
theorem g114 : GV Tryz.prog modes c114 114 := .of (hint := nh) (own := false) (by kernel_rfl) (by kernel_rfl) (by kernel_rfl)
@[irreducible] noncomputable def c80 : Ver := verD (cv nh 80 false)
theorem g80 : GV Tryz.prog modes c80 80 := .of (hint := nh) (own := false) (by kernel_rfl) (by kernel_rfl) (by kernel_rfl)
@[irreducible] noncomputable def c59 : Ver := verD (cv nh 59 false)
theorem g59 : GV Tryz.prog modes c59 59 := .of (hint := nh) (own := false) (by kernel_rfl) (by kernel_rfl) (by kernel_rfl)
@[irreducible] noncomputable def c177 : Ver := verD (cv nh 177 false)
theorem g177 : GV Tryz.prog modes c177 177 := .of (hint := nh) (own := false) (by kernel_rfl) (by kernel_rfl) (by kernel_rfl)
@[irreducible] noncomputable def c86 : Ver := verD (cv nh 86 false)
theorem g86 : GV Tryz.prog modes c86 86 := .of (hint := nh) (own := false) (by kernel_rfl) (by kernel_rfl) (by kernel_rfl)
@[irreducible] noncomputable def c116 : Ver := verD (cv nh 116 false)
noncomputable def c116_l0 : C := atD c116.code [true, false, true, false, false]
theorem g116 : GV Tryz.prog modes c116 116 := .of (hint := nh) (own := false) (by kernel_rfl) (by kernel_rfl) (by kernel_rfl)
@[irreducible] noncomputable def c85 : Ver := verD (cv nh 85 false)
theorem g85 : GV Tryz.prog modes c85 85 := .of (hint := nh) (own := false) (by kernel_rfl) (by kernel_rfl) (by kernel_rfl)
@[irreducible] noncomputable def c45 : Ver := verD (cv nh 45 false)
theorem g45 : GV Tryz.prog modes c45 45 := .of (hint := nh) (own := false) (by kernel_rfl) (by kernel_rfl) (by kernel_rfl)
@[irreducible] noncomputable def c112 : Ver := verD (cv nh 112 false)
theorem g112 : GV Tryz.prog modes c112 112 := .of (hint := nh) (own := false) (by kernel_rfl) (by kernel_rfl) (by kernel_rfl)
@[irreducible] noncomputable def c79 : Ver := verD (cv nh 79 false)
theorem g79 : GV Tryz.prog modes c79 79 := .of (hint := nh) (own := false) (by kernel_rfl) (by kernel_rfl) (by kernel_rfl)
@[irreducible] noncomputable def c81 : Ver := verD (cv nh 81 false)
theorem g81 : GV Tryz.prog modes c81 81 := .of (hint := nh) (own := false) (by kernel_rfl) (by kernel_rfl) (by kernel_rfl)
@[irreducible] noncomputable def c37 : Ver := verD (cv nh 37 false)
theorem g37 : GV Tryz.prog modes c37 37 := .of (hint := nh) (own := false) (by kernel_rfl) (by kernel_rfl) (by kernel_rfl)
@[irreducible] noncomputable def c158 : Ver := verD (cv nh 158 false)
theorem g158 : GV Tryz.prog modes c158 158 := .of (hint := nh) (own := false) (by kernel_rfl) (by kernel_rfl) (by kernel_rfl)
@[irreducible] noncomputable def c87 : Ver := verD (cv nh 87 false)
theorem g87 : GV Tryz.prog modes c87 87 := .of (hint := nh) (own := false) (by kernel_rfl) (by kernel_rfl) (by kernel_rfl)
@[irreducible] noncomputable def c160 : Ver := verD (cv nh 160 false)
theorem g160 : GV Tryz.prog modes c160 160 := .of (hint := nh) (own := false) (by kernel_rfl) (by kernel_rfl) (by kernel_rfl)
@[irreducible] noncomputable def c193 : Ver := verD (cv nh 193 false)
theorem g193 : GV Tryz.prog modes c193 193 := .of (hint := nh) (own := false) (by kernel_rfl) (by kernel_rfl) (by kernel_rfl)
@[irreducible] noncomputable def c236 : Ver := verD (cv nh 236 false)
noncomputable def c236_l0 : C := atD c236.code [true, false, true, false, false]
theorem g236 : GV Tryz.prog modes c236 236 := .of (hint := nh) (own := false) (by kernel_rfl) (by kernel_rfl) (by kernel_rfl)
@[irreducible] noncomputable def c192 : Ver := verD (cv nh 192 false)
theorem g192 : GV Tryz.prog modes c192 192 := .of (hint := nh) (own := false) (by kernel_rfl) (by kernel_rfl) (by kernel_rfl)
@[irreducible] noncomputable def c159 : Ver := verD (cv nh 159 false)
theorem g159 : GV Tryz.prog modes c159 159 := .of (hint := nh) (own := false) (by kernel_rfl) (by kernel_rfl) (by kernel_rfl)
@[irreducible] noncomputable def c101 : Ver := verD (cv nh 101 false)
theorem g101 : GV Tryz.prog modes c101 101 := .of (hint := nh) (own := false) (by kernel_rfl) (by kernel_rfl) (by kernel_rfl)
@[irreducible] noncomputable def c103 : Ver := verD (cv nh 103 false)
theorem g103 : GV Tryz.prog modes c103 103 := .of (hint := nh) (own := false) (by kernel_rfl) (by kernel_rfl) (by kernel_rfl)
@[irreducible] noncomputable def c161 : Ver := verD (cv nh 161 false)
theorem g161 : GV Tryz.prog modes c161 161 := .of (hint := nh) (own := false) (by kernel_rfl) (by kernel_rfl) (by kernel_rfl)
@[irreducible] noncomputable def c104 : Ver := verD (cv nh 104 false)
theorem g104 : GV Tryz.prog modes c104 104 := .of (hint := nh) (own := false) (by kernel_rfl) (by kernel_rfl) (by kernel_rfl)
@[irreducible] noncomputable def c102 : Ver := verD (cv nh 102 false)
theorem g102 : GV Tryz.prog modes c102 102 := .of (hint := nh) (own := false) (by kernel_rfl) (by kernel_rfl) (by kernel_rfl)
@[irreducible] noncomputable def c60 : Ver := verD (cv nh 60 false)
noncomputable def c60_l1 : C := atD c60.code [true, true, true, false, true, false, false, true, true, false, false, true, true, false, true, false, false]
noncomputable def c60_l0 : C := atD c60.code [true, true, true, false, true, false, false]
theorem g60 : GV Tryz.prog modes c60 60 := .of (hint := nh) (own := false) (by kernel_rfl) (by kernel_rfl) (by kernel_rfl)
@[irreducible] noncomputable def c48 : Ver := verD (cv nh 48 false)
theorem g48 : GV Tryz.prog modes c48 48 := .of (hint := nh) (own := false) (by kernel_rfl) (by kernel_rfl) (by kernel_rfl)
@[irreducible] noncomputable def c12 : Ver := verD (cv nh 12 false)
noncomputable def c12_l1 : C := atD c12.code [true, true, true, false, true, false, false, true, true, false, false, true, true, false, false]
noncomputable def c12_l0 : C := atD c12.code [true, true, true, false, true, false, false]
theorem g12 : GV Tryz.prog modes c12 12 := .of (hint := nh) (own := false) (by kernel_rfl) (by kernel_rfl) (by kernel_rfl)
@[irreducible] noncomputable def c105 : Ver := verD (cv nh 105 false)
noncomputable def c105_l0 : C := atD c105.code [true, true, false, true, false, false]
theorem g105 : GV Tryz.prog modes c105 105 := .of (hint := nh) (own := false) (by kernel_rfl) (by kernel_rfl) (by kernel_rfl)
@[irreducible] noncomputable def c61 : Ver := verD (cv (jh [63]) 61 false)
noncomputable def c61_j0 : C := atD c61.code [true, true, true, true, true, true, false, false]
theorem g61 : GV Tryz.prog modes c61 61 := .of (hint := (jh [63])) (own := false) (by kernel_rfl) (by kernel_rfl) (by kernel_rfl)
@[irreducible] noncomputable def c20 : Ver := verD (cv nh 20 false)
noncomputable def c20_l0 : C := atD c20.code [true, true, false, true, false, false]
theorem g20 : GV Tryz.prog modes c20 20 := .of (hint := nh) (own := false) (by kernel_rfl) (by kernel_rfl) (by kernel_rfl)
@[irreducible] noncomputable def c18 : Ver := verD (cv nh 18 false)
theorem g18 : GV Tryz.prog modes c18 18 := .of (hint := nh) (own := false) (by kernel_rfl) (by kernel_rfl) (by kernel_rfl)
@[irreducible] noncomputable def c8 : Ver := verD (cv nh 8 true)
theorem g8 : GV Tryz.prog modes c8 8 := .of (hint := nh) (own := true) (by kernel_rfl) (by kernel_rfl) (by kernel_rfl)
@[irreducible] noncomputable def c83 : Ver := verD (cv nh 83 false)
theorem g83 : GV Tryz.prog modes c83 83 := .of (hint := nh) (own := false) (by kernel_rfl) (by kernel_rfl) (by kernel_rfl)
@[irreducible] noncomputable def c39 : Ver := verD (cv nh 39 false)
theorem g39 : GV Tryz.prog modes c39 39 := .of (hint := nh) (own := false) (by kernel_rfl) (by kernel_rfl) (by kernel_rfl)
@[irreducible] noncomputable def c40 : Ver := verD (cv nh 40 false)
theorem g40 : GV Tryz.prog modes c40 40 := .of (hint := nh) (own := false) (by kernel_rfl) (by kernel_rfl) (by kernel_rfl)
abbrev h41 : Hint := ⟨fun n => if n = 9 then some (0, [1]) else none, []⟩
@[irreducible] noncomputable def c41 : Ver := verD (cv h41 41 false)
theorem g41 : GV Tryz.prog modes c41 41 := .of (hint := h41) (own := false) (by kernel_rfl) (by kernel_rfl) (by kernel_rfl)
abbrev h9 : Hint := ⟨fun n => if n = 82 then some (0, [1]) else if n = 95 then some (0, [1]) else if n = 108 then some (0, [1]) else if n = 117 then some (0, [1]) else none, [523929]⟩
@[irreducible] noncomputable def c9 : Ver := verD (cv h9 9 false)
noncomputable def c9_j0 : C := atD c9.code [true, true, true, true, true, true, true, true, true, false, true, false, false, true, true, false, false, true, true, false, false]
noncomputable def c9_l0 : C := atD c9.code [true, true, true, true, true, true, true, true, true, false, true, false, false]
theorem g9 : GV Tryz.prog modes c9 9 := .of (hint := h9) (own := false) (by kernel_rfl) (by kernel_rfl) (by kernel_rfl)
@[irreducible] noncomputable def c46 : Ver := verD (cv nh 46 false)
theorem g46 : GV Tryz.prog modes c46 46 := .of (hint := nh) (own := false) (by kernel_rfl) (by kernel_rfl) (by kernel_rfl)
@[irreducible] noncomputable def c93 : Ver := verD (cv nh 93 false)
theorem g93 : GV Tryz.prog modes c93 93 := .of (hint := nh) (own := false) (by kernel_rfl) (by kernel_rfl) (by kernel_rfl)
@[irreducible] noncomputable def c92 : Ver := verD (cv nh 92 false)
theorem g92 : GV Tryz.prog modes c92 92 := .of (hint := nh) (own := false) (by kernel_rfl) (by kernel_rfl) (by kernel_rfl)
@[irreducible] noncomputable def c190 : Ver := verD (cv nh 190 false)
noncomputable def c190_l0 : C := atD c190.code [true, false, true, false, false]
theorem g190 : GV Tryz.prog modes c190 190 := .of (hint := nh) (own := false) (by kernel_rfl) (by kernel_rfl) (by kernel_rfl)
@[irreducible] noncomputable def c148 : Ver := verD (cv nh 148 false)
theorem g148 : GV Tryz.prog modes c148 148 := .of (hint := nh) (own := false) (by kernel_rfl) (by kernel_rfl) (by kernel_rfl)
@[irreducible] noncomputable def c53 : Ver := verD (cv nh 53 false)
noncomputable def c53_l0 : C := atD c53.code [true, false, true, false, false]
theorem g53 : GV Tryz.prog modes c53 53 := .of (hint := nh) (own := false) (by kernel_rfl) (by kernel_rfl) (by kernel_rfl)
@[irreducible] noncomputable def c147 : Ver := verD (cv nh 147 false)
theorem g147 : GV Tryz.prog modes c147 147 := .of (hint := nh) (own := false) (by kernel_rfl) (by kernel_rfl) (by kernel_rfl)
@[irreducible] noncomputable def c94 : Ver := verD (cv nh 94 false)
noncomputable def c94_l0 : C := atD c94.code [true, false, true, false, false]
theorem g94 : GV Tryz.prog modes c94 94 := .of (hint := nh) (own := false) (by kernel_rfl) (by kernel_rfl) (by kernel_rfl)
@[irreducible] noncomputable def c146 : Ver := verD (cv nh 146 false)
theorem g146 : GV Tryz.prog modes c146 146 := .of (hint := nh) (own := false) (by kernel_rfl) (by kernel_rfl) (by kernel_rfl)
@[irreducible] noncomputable def c145 : Ver := verD (cv nh 145 false)
noncomputable def c145_l0 : C := atD c145.code [true, false, true, false, false]
theorem g145 : GV Tryz.prog modes c145 145 := .of (hint := nh) (own := false) (by kernel_rfl) (by kernel_rfl) (by kernel_rfl)
@[irreducible] noncomputable def c144 : Ver := verD (cv nh 144 false)
theorem g144 : GV Tryz.prog modes c144 144 := .of (hint := nh) (own := false) (by kernel_rfl) (by kernel_rfl) (by kernel_rfl)
@[irreducible] noncomputable def c143 : Ver := verD (cv nh 143 false)
theorem g143 : GV Tryz.prog modes c143 143 := .of (hint := nh) (own := false) (by kernel_rfl) (by kernel_rfl) (by kernel_rfl)
@[irreducible] noncomputable def c118 : Ver := verD (cv nh 118 false)
noncomputable def c118_l0 : C := atD c118.code [true, false, true, false, false]
theorem g118 : GV Tryz.prog modes c118 118 := .of (hint := nh) (own := false) (by kernel_rfl) (by kernel_rfl) (by kernel_rfl)
@[irreducible] noncomputable def c122 : Ver := verD (cv nh 122 false)
theorem g122 : GV Tryz.prog modes c122 122 := .of (hint := nh) (own := false) (by kernel_rfl) (by kernel_rfl) (by kernel_rfl)
@[irreducible] noncomputable def c142 : Ver := verD (cv nh 142 false)
theorem g142 : GV Tryz.prog modes c142 142 := .of (hint := nh) (own := false) (by kernel_rfl) (by kernel_rfl) (by kernel_rfl)
@[irreducible] noncomputable def c141 : Ver := verD (cv nh 141 false)
theorem g141 : GV Tryz.prog modes c141 141 := .of (hint := nh) (own := false) (by kernel_rfl) (by kernel_rfl) (by kernel_rfl)
@[irreducible] noncomputable def c140 : Ver := verD (cv nh 140 false)
noncomputable def c140_l0 : C := atD c140.code [true, false, true, false, false]
theorem g140 : GV Tryz.prog modes c140 140 := .of (hint := nh) (own := false) (by kernel_rfl) (by kernel_rfl) (by kernel_rfl)
@[irreducible] noncomputable def c139 : Ver := verD (cv nh 139 false)
theorem g139 : GV Tryz.prog modes c139 139 := .of (hint := nh) (own := false) (by kernel_rfl) (by kernel_rfl) (by kernel_rfl)
@[irreducible] noncomputable def c138 : Ver := verD (cv nh 138 false)
theorem g138 : GV Tryz.prog modes c138 138 := .of (hint := nh) (own := false) (by kernel_rfl) (by kernel_rfl) (by kernel_rfl)
@[irreducible] noncomputable def c134 : Ver := verD (cv nh 134 false)
theorem g134 : GV Tryz.prog modes c134 134 := .of (hint := nh) (own := false) (by kernel_rfl) (by kernel_rfl) (by kernel_rfl)
@[irreducible] noncomputable def c137 : Ver := verD (cv nh 137 false)
theorem g137 : GV Tryz.prog modes c137 137 := .of (hint := nh) (own := false) (by kernel_rfl) (by kernel_rfl) (by kernel_rfl)
@[irreducible] noncomputable def c136 : Ver := verD (cv nh 136 false)
theorem g136 : GV Tryz.prog modes c136 136 := .of (hint := nh) (own := false) (by kernel_rfl) (by kernel_rfl) (by kernel_rfl)
@[irreducible] noncomputable def c135 : Ver := verD (cv nh 135 false)
noncomputable def c135_l0 : C := atD c135.code [true, false, true, false, false]
theorem g135 : GV Tryz.prog modes c135 135 := .of (hint := nh) (own := false) (by kernel_rfl) (by kernel_rfl) (by kernel_rfl)
@[irreducible] noncomputable def c133 : Ver := verD (cv nh 133 false)
theorem g133 : GV Tryz.prog modes c133 133 := .of (hint := nh) (own := false) (by kernel_rfl) (by kernel_rfl) (by kernel_rfl)
@[irreducible] noncomputable def c132 : Ver := verD (cv nh 132 false)
noncomputable def c132_l0 : C := atD c132.code [true, false, true, false, false]
theorem g132 : GV Tryz.prog modes c132 132 := .of (hint := nh) (own := false) (by kernel_rfl) (by kernel_rfl) (by kernel_rfl)
@[irreducible] noncomputable def c131 : Ver := verD (cv nh 131 false)
theorem g131 : GV Tryz.prog modes c131 131 := .of (hint := nh) (own := false) (by kernel_rfl) (by kernel_rfl) (by kernel_rfl)
@[irreducible] noncomputable def c130 : Ver := verD (cv nh 130 false)
theorem g130 : GV Tryz.prog modes c130 130 := .of (hint := nh) (own := false) (by kernel_rfl) (by kernel_rfl) (by kernel_rfl)
@[irreducible] noncomputable def c90 : Ver := verD (cv nh 90 false)
noncomputable def c90_l0 : C := atD c90.code [true, true, false, true, false, false]
noncomputable def c90_l1 : C := atD c90.code [true, true, true, false, true, false, false]
theorem g90 : GV Tryz.prog modes c90 90 := .of (hint := nh) (own := false) (by kernel_rfl) (by kernel_rfl) (by kernel_rfl)
@[irreducible] noncomputable def c187 : Ver := verD (cv nh 187 false)
theorem g187 : GV Tryz.prog modes c187 187 := .of (hint := nh) (own := false) (by kernel_rfl) (by kernel_rfl) (by kernel_rfl)
@[irreducible] noncomputable def c183 : Ver := verD (cv nh 183 false)
theorem g183 : GV Tryz.prog modes c183 183 := .of (hint := nh) (own := false) (by kernel_rfl) (by kernel_rfl) (by kernel_rfl)
@[irreducible] noncomputable def c151 : Ver := verD (cv nh 151 false)
theorem g151 : GV Tryz.prog modes c151 151 := .of (hint := nh) (own := false) (by kernel_rfl) (by kernel_rfl) (by kernel_rfl)
@[irreducible] noncomputable def c182 : Ver := verD (cv nh 182 false)
theorem g182 : GV Tryz.prog modes c182 182 := .of (hint := nh) (own := false) (by kernel_rfl) (by kernel_rfl) (by kernel_rfl)
@[irreducible] noncomputable def c152 : Ver := verD (cv nh 152 false)
noncomputable def c152_l0 : C := atD c152.code [true, false, true, false, false]
theorem g152 : GV Tryz.prog modes c152 152 := .of (hint := nh) (own := false) (by kernel_rfl) (by kernel_rfl) (by kernel_rfl)
@[irreducible] noncomputable def c212 : Ver := verD (cv nh 212 false)
theorem g212 : GV Tryz.prog modes c212 212 := .of (hint := nh) (own := false) (by kernel_rfl) (by kernel_rfl) (by kernel_rfl)
@[irreducible] noncomputable def c219 : Ver := verD (cv nh 219 false)
theorem g219 : GV Tryz.prog modes c219 219 := .of (hint := nh) (own := false) (by kernel_rfl) (by kernel_rfl) (by kernel_rfl)
@[irreducible] noncomputable def c184 : Ver := verD (cv nh 184 false)
theorem g184 : GV Tryz.prog modes c184 184 := .of (hint := nh) (own := false) (by kernel_rfl) (by kernel_rfl) (by kernel_rfl)
@[irreducible] noncomputable def c149 : Ver := verD (cv nh 149 false)
noncomputable def c149_l0 : C := atD c149.code [true, false, true, false, false]
theorem g149 : GV Tryz.prog modes c149 149 := .of (hint := nh) (own := false) (by kernel_rfl) (by kernel_rfl) (by kernel_rfl)
@[irreducible] noncomputable def c188 : Ver := verD (cv nh 188 false)
theorem g188 : GV Tryz.prog modes c188 188 := .of (hint := nh) (own := false) (by kernel_rfl) (by kernel_rfl) (by kernel_rfl)
@[irreducible] noncomputable def c154 : Ver := verD (cv nh 154 false)
theorem g154 : GV Tryz.prog modes c154 154 := .of (hint := nh) (own := false) (by kernel_rfl) (by kernel_rfl) (by kernel_rfl)
@[irreducible] noncomputable def c189 : Ver := verD (cv nh 189 false)
theorem g189 : GV Tryz.prog modes c189 189 := .of (hint := nh) (own := false) (by kernel_rfl) (by kernel_rfl) (by kernel_rfl)
@[irreducible] noncomputable def c233 : Ver := verD (cv nh 233 false)
theorem g233 : GV Tryz.prog modes c233 233 := .of (hint := nh) (own := false) (by kernel_rfl) (by kernel_rfl) (by kernel_rfl)
@[irreducible] noncomputable def c230 : Ver := verD (cv nh 230 false)
theorem g230 : GV Tryz.prog modes c230 230 := .of (hint := nh) (own := false) (by kernel_rfl) (by kernel_rfl) (by kernel_rfl)
@[irreducible] noncomputable def c228 : Ver := verD (cv nh 228 false)
theorem g228 : GV Tryz.prog modes c228 228 := .of (hint := nh) (own := false) (by kernel_rfl) (by kernel_rfl) (by kernel_rfl)
@[irreducible] noncomputable def c226 : Ver := verD (cv nh 226 false)
theorem g226 : GV Tryz.prog modes c226 226 := .of (hint := nh) (own := false) (by kernel_rfl) (by kernel_rfl) (by kernel_rfl)
@[irreducible] noncomputable def c224 : Ver := verD (cv nh 224 false)
theorem g224 : GV Tryz.prog modes c224 224 := .of (hint := nh) (own := false) (by kernel_rfl) (by kernel_rfl) (by kernel_rfl)
@[irreducible] noncomputable def c245 : Ver := verD (cv nh 245 false)
theorem g245 : GV Tryz.prog modes c245 245 := .of (hint := nh) (own := false) (by kernel_rfl) (by kernel_rfl) (by kernel_rfl)
@[irreducible] noncomputable def c243 : Ver := verD (cv nh 243 false)
theorem g243 : GV Tryz.prog modes c243 243 := .of (hint := nh) (own := false) (by kernel_rfl) (by kernel_rfl) (by kernel_rfl)
@[irreducible] noncomputable def c209 : Ver := verD (cv nh 209 false)
theorem g209 : GV Tryz.prog modes c209 209 := .of (hint := nh) (own := false) (by kernel_rfl) (by kernel_rfl) (by kernel_rfl)
@[irreducible] noncomputable def c208 : Ver := verD (cv nh 208 false)
theorem g208 : GV Tryz.prog modes c208 208 := .of (hint := nh) (own := false) (by kernel_rfl) (by kernel_rfl) (by kernel_rfl)
abbrev h186 : Hint := ⟨fun n => if n = 77 then some (0, [0, 0, 0, 208, 209, 224, 226, 228, 230, 233, 245]) else none, [15]⟩
@[irreducible] noncomputable def c186 : Ver := verD (cv h186 186 false)
noncomputable def c186_l0 : C := atD c186.code [true, true, true, true, false, false, false, true, true, false, true, false, false]
noncomputable def c186_j0 : C := atD c186.code [true, true, true, true, false, false]
theorem g186 : GV Tryz.prog modes c186 186 := .of (hint := h186) (own := false) (by kernel_rfl) (by kernel_rfl) (by kernel_rfl)
@[irreducible] noncomputable def c185 : Ver := verD (cv nh 185 false)
noncomputable def c185_l0 : C := atD c185.code [true, false, true, false, false]
theorem g185 : GV Tryz.prog modes c185 185 := .of (hint := nh) (own := false) (by kernel_rfl) (by kernel_rfl) (by kernel_rfl)
@[irreducible] noncomputable def c129 : Ver := verD (cv nh 129 false)
theorem g129 : GV Tryz.prog modes c129 129 := .of (hint := nh) (own := false) (by kernel_rfl) (by kernel_rfl) (by kernel_rfl)
@[irreducible] noncomputable def c128 : Ver := verD (cv nh 128 false)
theorem g128 : GV Tryz.prog modes c128 128 := .of (hint := nh) (own := false) (by kernel_rfl) (by kernel_rfl) (by kernel_rfl)
@[irreducible] noncomputable def c123 : Ver := verD (cv nh 123 false)
theorem g123 : GV Tryz.prog modes c123 123 := .of (hint := nh) (own := false) (by kernel_rfl) (by kernel_rfl) (by kernel_rfl)
@[irreducible] noncomputable def c96 : Ver := verD (cv nh 96 false)
theorem g96 : GV Tryz.prog modes c96 96 := .of (hint := nh) (own := false) (by kernel_rfl) (by kernel_rfl) (by kernel_rfl)
@[irreducible] noncomputable def c127 : Ver := verD (cv nh 127 false)
theorem g127 : GV Tryz.prog modes c127 127 := .of (hint := nh) (own := false) (by kernel_rfl) (by kernel_rfl) (by kernel_rfl)
@[irreducible] noncomputable def c126 : Ver := verD (cv nh 126 false)
noncomputable def c126_l0 : C := atD c126.code [true, false, true, false, false]
theorem g126 : GV Tryz.prog modes c126 126 := .of (hint := nh) (own := false) (by kernel_rfl) (by kernel_rfl) (by kernel_rfl)
@[irreducible] noncomputable def c125 : Ver := verD (cv nh 125 false)
theorem g125 : GV Tryz.prog modes c125 125 := .of (hint := nh) (own := false) (by kernel_rfl) (by kernel_rfl) (by kernel_rfl)
@[irreducible] noncomputable def c124 : Ver := verD (cv nh 124 false)
theorem g124 : GV Tryz.prog modes c124 124 := .of (hint := nh) (own := false) (by kernel_rfl) (by kernel_rfl) (by kernel_rfl)
@[irreducible] noncomputable def c121 : Ver := verD (cv nh 121 false)
theorem g121 : GV Tryz.prog modes c121 121 := .of (hint := nh) (own := false) (by kernel_rfl) (by kernel_rfl) (by kernel_rfl)
@[irreducible] noncomputable def c120 : Ver := verD (cv nh 120 false)
noncomputable def c120_l0 : C := atD c120.code [true, false, true, false, false]
theorem g120 : GV Tryz.prog modes c120 120 := .of (hint := nh) (own := false) (by kernel_rfl) (by kernel_rfl) (by kernel_rfl)
@[irreducible] noncomputable def c119 : Ver := verD (cv nh 119 false)
theorem g119 : GV Tryz.prog modes c119 119 := .of (hint := nh) (own := false) (by kernel_rfl) (by kernel_rfl) (by kernel_rfl)
@[irreducible] noncomputable def c117 : Ver := verD (cv nh 117 false)
theorem g117 : GV Tryz.prog modes c117 117 := .of (hint := nh) (own := false) (by kernel_rfl) (by kernel_rfl) (by kernel_rfl)
@[irreducible] noncomputable def c88 : Ver := verD (cv nh 88 false)
noncomputable def c88_l0 : C := atD c88.code [true, true, true, true, false, true, false, false]
theorem g88 : GV Tryz.prog modes c88 88 := .of (hint := nh) (own := false) (by kernel_rfl) (by kernel_rfl) (by kernel_rfl)
@[irreducible] noncomputable def c49 : Ver := verD (cv nh 49 false)
theorem g49 : GV Tryz.prog modes c49 49 := .of (hint := nh) (own := false) (by kernel_rfl) (by kernel_rfl) (by kernel_rfl)
@[irreducible] noncomputable def c50 : Ver := verD (cv nh 50 false)
noncomputable def c50_l0 : C := atD c50.code [true, true, false, true, false, false]
theorem g50 : GV Tryz.prog modes c50 50 := .of (hint := nh) (own := false) (by kernel_rfl) (by kernel_rfl) (by kernel_rfl)
@[irreducible] noncomputable def c13 : Ver := verD (cv nh 13 false)
theorem g13 : GV Tryz.prog modes c13 13 := .of (hint := nh) (own := false) (by kernel_rfl) (by kernel_rfl) (by kernel_rfl)
@[irreducible] noncomputable def c95 : Ver := verD (cv nh 95 false)
theorem g95 : GV Tryz.prog modes c95 95 := .of (hint := nh) (own := false) (by kernel_rfl) (by kernel_rfl) (by kernel_rfl)
@[irreducible] noncomputable def c55 : Ver := verD (cv nh 55 false)
theorem g55 : GV Tryz.prog modes c55 55 := .of (hint := nh) (own := false) (by kernel_rfl) (by kernel_rfl) (by kernel_rfl)
@[irreducible] noncomputable def c97 : Ver := verD (cv nh 97 false)
theorem g97 : GV Tryz.prog modes c97 97 := .of (hint := nh) (own := false) (by kernel_rfl) (by kernel_rfl) (by kernel_rfl)
@[irreducible] noncomputable def c56 : Ver := verD (cv nh 56 false)
theorem g56 : GV Tryz.prog modes c56 56 := .of (hint := nh) (own := false) (by kernel_rfl) (by kernel_rfl) (by kernel_rfl)
@[irreducible] noncomputable def c51 : Ver := verD (cv nh 51 false)
theorem g51 : GV Tryz.prog modes c51 51 := .of (hint := nh) (own := false) (by kernel_rfl) (by kernel_rfl) (by kernel_rfl)
@[irreducible] noncomputable def c91 : Ver := verD (cv nh 91 false)
noncomputable def c91_l0 : C := atD c91.code [true, true, false, true, false, false]
noncomputable def c91_l1 : C := atD c91.code [true, true, true, true, false, true, false, false]
theorem g91 : GV Tryz.prog modes c91 91 := .of (hint := nh) (own := false) (by kernel_rfl) (by kernel_rfl) (by kernel_rfl)
@[irreducible] noncomputable def c150 : Ver := verD (cv nh 150 false)
theorem g150 : GV Tryz.prog modes c150 150 := .of (hint := nh) (own := false) (by kernel_rfl) (by kernel_rfl) (by kernel_rfl)
@[irreducible] noncomputable def c153 : Ver := verD (cv nh 153 false)
theorem g153 : GV Tryz.prog modes c153 153 := .of (hint := nh) (own := false) (by kernel_rfl) (by kernel_rfl) (by kernel_rfl)
@[irreducible] noncomputable def c235 : Ver := verD (cv nh 235 false)
theorem g235 : GV Tryz.prog modes c235 235 := .of (hint := nh) (own := false) (by kernel_rfl) (by kernel_rfl) (by kernel_rfl)
@[irreducible] noncomputable def c211 : Ver := verD (cv nh 211 false)
theorem g211 : GV Tryz.prog modes c211 211 := .of (hint := nh) (own := false) (by kernel_rfl) (by kernel_rfl) (by kernel_rfl)
@[irreducible] noncomputable def c234 : Ver := verD (cv nh 234 false)
theorem g234 : GV Tryz.prog modes c234 234 := .of (hint := nh) (own := false) (by kernel_rfl) (by kernel_rfl) (by kernel_rfl)
@[irreducible] noncomputable def c223 : Ver := verD (cv nh 223 false)
theorem g223 : GV Tryz.prog modes c223 223 := .of (hint := nh) (own := false) (by kernel_rfl) (by kernel_rfl) (by kernel_rfl)
@[irreducible] noncomputable def c232 : Ver := verD (cv nh 232 false)
theorem g232 : GV Tryz.prog modes c232 232 := .of (hint := nh) (own := false) (by kernel_rfl) (by kernel_rfl) (by kernel_rfl)
@[irreducible] noncomputable def c231 : Ver := verD (cv nh 231 false)
theorem g231 : GV Tryz.prog modes c231 231 := .of (hint := nh) (own := false) (by kernel_rfl) (by kernel_rfl) (by kernel_rfl)
@[irreducible] noncomputable def c229 : Ver := verD (cv nh 229 false)
theorem g229 : GV Tryz.prog modes c229 229 := .of (hint := nh) (own := false) (by kernel_rfl) (by kernel_rfl) (by kernel_rfl)
@[irreducible] noncomputable def c227 : Ver := verD (cv nh 227 false)
theorem g227 : GV Tryz.prog modes c227 227 := .of (hint := nh) (own := false) (by kernel_rfl) (by kernel_rfl) (by kernel_rfl)
@[irreducible] noncomputable def c225 : Ver := verD (cv nh 225 false)
theorem g225 : GV Tryz.prog modes c225 225 := .of (hint := nh) (own := false) (by kernel_rfl) (by kernel_rfl) (by kernel_rfl)
@[irreducible] noncomputable def c222 : Ver := verD (cv nh 222 false)
theorem g222 : GV Tryz.prog modes c222 222 := .of (hint := nh) (own := false) (by kernel_rfl) (by kernel_rfl) (by kernel_rfl)
@[irreducible] noncomputable def c247 : Ver := verD (cv nh 247 false)
theorem g247 : GV Tryz.prog modes c247 247 := .of (hint := nh) (own := false) (by kernel_rfl) (by kernel_rfl) (by kernel_rfl)
@[irreducible] noncomputable def c246 : Ver := verD (cv nh 246 false)
theorem g246 : GV Tryz.prog modes c246 246 := .of (hint := nh) (own := false) (by kernel_rfl) (by kernel_rfl) (by kernel_rfl)
@[irreducible] noncomputable def c221 : Ver := verD (cv nh 221 false)
theorem g221 : GV Tryz.prog modes c221 221 := .of (hint := nh) (own := false) (by kernel_rfl) (by kernel_rfl) (by kernel_rfl)
@[irreducible] noncomputable def c220 : Ver := verD (cv nh 220 false)
theorem g220 : GV Tryz.prog modes c220 220 := .of (hint := nh) (own := false) (by kernel_rfl) (by kernel_rfl) (by kernel_rfl)
@[irreducible] noncomputable def c218 : Ver := verD (cv nh 218 false)
theorem g218 : GV Tryz.prog modes c218 218 := .of (hint := nh) (own := false) (by kernel_rfl) (by kernel_rfl) (by kernel_rfl)
@[irreducible] noncomputable def c244 : Ver := verD (cv nh 244 false)
theorem g244 : GV Tryz.prog modes c244 244 := .of (hint := nh) (own := false) (by kernel_rfl) (by kernel_rfl) (by kernel_rfl)
@[irreducible] noncomputable def c217 : Ver := verD (cv nh 217 false)
theorem g217 : GV Tryz.prog modes c217 217 := .of (hint := nh) (own := false) (by kernel_rfl) (by kernel_rfl) (by kernel_rfl)
@[irreducible] noncomputable def c216 : Ver := verD (cv nh 216 false)
theorem g216 : GV Tryz.prog modes c216 216 := .of (hint := nh) (own := false) (by kernel_rfl) (by kernel_rfl) (by kernel_rfl)
@[irreducible] noncomputable def c215 : Ver := verD (cv nh 215 false)
theorem g215 : GV Tryz.prog modes c215 215 := .of (hint := nh) (own := false) (by kernel_rfl) (by kernel_rfl) (by kernel_rfl)
@[irreducible] noncomputable def c214 : Ver := verD (cv nh 214 false)
theorem g214 : GV Tryz.prog modes c214 214 := .of (hint := nh) (own := false) (by kernel_rfl) (by kernel_rfl) (by kernel_rfl)
@[irreducible] noncomputable def c213 : Ver := verD (cv nh 213 false)
theorem g213 : GV Tryz.prog modes c213 213 := .of (hint := nh) (own := false) (by kernel_rfl) (by kernel_rfl) (by kernel_rfl)
@[irreducible] noncomputable def c210 : Ver := verD (cv nh 210 false)
theorem g210 : GV Tryz.prog modes c210 210 := .of (hint := nh) (own := false) (by kernel_rfl) (by kernel_rfl) (by kernel_rfl)
@[irreducible] noncomputable def c207 : Ver := verD (cv nh 207 false)
theorem g207 : GV Tryz.prog modes c207 207 := .of (hint := nh) (own := false) (by kernel_rfl) (by kernel_rfl) (by kernel_rfl)
@[irreducible] noncomputable def c191 : Ver := verD (cv nh 191 false)
noncomputable def c191_l0 : C := atD c191.code [true, true, false, true, false, false]
theorem g191 : GV Tryz.prog modes c191 191 := .of (hint := nh) (own := false) (by kernel_rfl) (by kernel_rfl) (by kernel_rfl)
@[irreducible] noncomputable def c155 : Ver := verD (cv nh 155 false)
noncomputable def c155_l0 : C := atD c155.code [true, true, true, false, true, false, false]
theorem g155 : GV Tryz.prog modes c155 155 := .of (hint := nh) (own := false) (by kernel_rfl) (by kernel_rfl) (by kernel_rfl)
@[irreducible] noncomputable def c89 : Ver := verD (cv nh 89 false)
theorem g89 : GV Tryz.prog modes c89 89 := .of (hint := nh) (own := false) (by kernel_rfl) (by kernel_rfl) (by kernel_rfl)
@[irreducible] noncomputable def c52 : Ver := verD (cv nh 52 false)
theorem g52 : GV Tryz.prog modes c52 52 := .of (hint := nh) (own := false) (by kernel_rfl) (by kernel_rfl) (by kernel_rfl)
@[irreducible] noncomputable def c14 : Ver := verD (cv nh 14 false)
noncomputable def c14_l0 : C := atD c14.code [true, true, true, true, true, false, true, false, false]
theorem g14 : GV Tryz.prog modes c14 14 := .of (hint := nh) (own := false) (by kernel_rfl) (by kernel_rfl) (by kernel_rfl)
@[irreducible] noncomputable def c54 : Ver := verD (cv nh 54 false)
theorem g54 : GV Tryz.prog modes c54 54 := .of (hint := nh) (own := false) (by kernel_rfl) (by kernel_rfl) (by kernel_rfl)
@[irreducible] noncomputable def c57 : Ver := verD (cv nh 57 false)
theorem g57 : GV Tryz.prog modes c57 57 := .of (hint := nh) (own := false) (by kernel_rfl) (by kernel_rfl) (by kernel_rfl)
@[irreducible] noncomputable def c58 : Ver := verD (cv nh 58 false)
noncomputable def c58_l0 : C := atD c58.code [true, true, false, true, false, false]
theorem g58 : GV Tryz.prog modes c58 58 := .of (hint := nh) (own := false) (by kernel_rfl) (by kernel_rfl) (by kernel_rfl)
@[irreducible] noncomputable def c15 : Ver := verD (cv (jh [7]) 15 false)
noncomputable def c15_j0 : C := atD c15.code [true, true, true, false, false]
theorem g15 : GV Tryz.prog modes c15 15 := .of (hint := (jh [7])) (own := false) (by kernel_rfl) (by kernel_rfl) (by kernel_rfl)
@[irreducible] noncomputable def c10 : Ver := verD (cv nh 10 false)
noncomputable def c10_l0 : C := atD c10.code [true, true, true, true, true, true, false, true, false, false]
theorem g10 : GV Tryz.prog modes c10 10 := .of (hint := nh) (own := false) (by kernel_rfl) (by kernel_rfl) (by kernel_rfl)
@[irreducible] noncomputable def c31 : Ver := verD (cv nh 31 false)
theorem g31 : GV Tryz.prog modes c31 31 := .of (hint := nh) (own := false) (by kernel_rfl) (by kernel_rfl) (by kernel_rfl)
@[irreducible] noncomputable def c19 : Ver := verD (cv nh 19 false)
noncomputable def c19_l0 : C := atD c19.code [true, true, true, false, true, false, false]
theorem g19 : GV Tryz.prog modes c19 19 := .of (hint := nh) (own := false) (by kernel_rfl) (by kernel_rfl) (by kernel_rfl)
@[irreducible] noncomputable def c21 : Ver := verD (cv nh 21 false)
noncomputable def c21_l1 : C := atD c21.code [true, true, false, true, false, false, true, false, false, true, false, false]
noncomputable def c21_l0 : C := atD c21.code [true, true, false, true, false, false]
theorem g21 : GV Tryz.prog modes c21 21 := .of (hint := nh) (own := false) (by kernel_rfl) (by kernel_rfl) (by kernel_rfl)
@[irreducible] noncomputable def c22 : Ver := verD (cv nh 22 false)
noncomputable def c22_l0 : C := atD c22.code [true, true, true, false, true, false, false]
theorem g22 : GV Tryz.prog modes c22 22 := .of (hint := nh) (own := false) (by kernel_rfl) (by kernel_rfl) (by kernel_rfl)
@[irreducible] noncomputable def c62 : Ver := verD (cv nh 62 false)
noncomputable def c62_l0 : C := atD c62.code [true, true, false, true, false, false]
theorem g62 : GV Tryz.prog modes c62 62 := .of (hint := nh) (own := false) (by kernel_rfl) (by kernel_rfl) (by kernel_rfl)
@[irreducible] noncomputable def c63 : Ver := verD (cv nh 63 false)
noncomputable def c63_l0 : C := atD c63.code [true, true, false, true, false, false]
theorem g63 : GV Tryz.prog modes c63 63 := .of (hint := nh) (own := false) (by kernel_rfl) (by kernel_rfl) (by kernel_rfl)
@[irreducible] noncomputable def c64 : Ver := verD (cv nh 64 false)
noncomputable def c64_l0 : C := atD c64.code [true, true, false, true, false, false]
theorem g64 : GV Tryz.prog modes c64 64 := .of (hint := nh) (own := false) (by kernel_rfl) (by kernel_rfl) (by kernel_rfl)
@[irreducible] noncomputable def c65 : Ver := verD (cv nh 65 false)
noncomputable def c65_l0 : C := atD c65.code [true, true, false, true, false, false]
theorem g65 : GV Tryz.prog modes c65 65 := .of (hint := nh) (own := false) (by kernel_rfl) (by kernel_rfl) (by kernel_rfl)
@[irreducible] noncomputable def c23 : Ver := verD (cv nh 23 false)
noncomputable def c23_l0 : C := atD c23.code [true, true, false, true, false, false]
noncomputable def c23_l1 : C := atD c23.code [true, true, true, false, true, false, false]
noncomputable def c23_l2 : C := atD c23.code [true, true, true, true, false, true, false, false]
theorem g23 : GV Tryz.prog modes c23 23 := .of (hint := nh) (own := false) (by kernel_rfl) (by kernel_rfl) (by kernel_rfl)
@[irreducible] noncomputable def c168 : Ver := verD (cv (jh [1865]) 168 false)
noncomputable def c168_j0 : C := atD c168.code [true, true, false, true, false, false, true, false, false, true, true, false, false]
noncomputable def c168_l0 : C := atD c168.code [true, true, false, true, false, false]
theorem g168 : GV Tryz.prog modes c168 168 := .of (hint := (jh [1865])) (own := false) (by kernel_rfl) (by kernel_rfl) (by kernel_rfl)
@[irreducible] noncomputable def c199 : Ver := verD (cv nh 199 false)
theorem g199 : GV Tryz.prog modes c199 199 := .of (hint := nh) (own := false) (by kernel_rfl) (by kernel_rfl) (by kernel_rfl)
@[irreducible] noncomputable def c169 : Ver := verD (cv nh 169 false)
noncomputable def c169_l1 : C := atD c169.code [true, true, false, true, false, false, true, false, false, true, false, true, false, false]
noncomputable def c169_l0 : C := atD c169.code [true, true, false, true, false, false]
theorem g169 : GV Tryz.prog modes c169 169 := .of (hint := nh) (own := false) (by kernel_rfl) (by kernel_rfl) (by kernel_rfl)
@[irreducible] noncomputable def c17 : Ver := verD (cv nh 17 false)
theorem g17 : GV Tryz.prog modes c17 17 := .of (hint := nh) (own := false) (by kernel_rfl) (by kernel_rfl) (by kernel_rfl)
@[irreducible] noncomputable def c32 : Ver := verD (cv nh 32 false)
theorem g32 : GV Tryz.prog modes c32 32 := .of (hint := nh) (own := false) (by kernel_rfl) (by kernel_rfl) (by kernel_rfl)
@[irreducible] noncomputable def c170 : Ver := verD (cv nh 170 false)
noncomputable def c170_l1 : C := atD c170.code [true, true, false, true, false, false, true, false, false, true, false, true, false, false]
noncomputable def c170_l2 : C := atD c170.code [true, true, false, true, false, false, true, false, false, true, true, false, true, false, false]
noncomputable def c170_l0 : C := atD c170.code [true, true, false, true, false, false]
theorem g170 : GV Tryz.prog modes c170 170 := .of (hint := nh) (own := false) (by kernel_rfl) (by kernel_rfl) (by kernel_rfl)
@[irreducible] noncomputable def c172 : Ver := verD (cv nh 172 false)
noncomputable def c172_l0 : C := atD c172.code [true, true, false, true, false, false]
noncomputable def c172_l1 : C := atD c172.code [true, true, true, false, true, false, false]
theorem g172 : GV Tryz.prog modes c172 172 := .of (hint := nh) (own := false) (by kernel_rfl) (by kernel_rfl) (by kernel_rfl)
@[irreducible] noncomputable def c239 : Ver := verD (cv nh 239 false)
theorem g239 : GV Tryz.prog modes c239 239 := .of (hint := nh) (own := false) (by kernel_rfl) (by kernel_rfl) (by kernel_rfl)
@[irreducible] noncomputable def c240 : Ver := verD (cv nh 240 false)
noncomputable def c240_l0 : C := atD c240.code [true, true, false, true, false, false]
theorem g240 : GV Tryz.prog modes c240 240 := .of (hint := nh) (own := false) (by kernel_rfl) (by kernel_rfl) (by kernel_rfl)
@[irreducible] noncomputable def c200 : Ver := verD (cv nh 200 false)
noncomputable def c200_l0 : C := atD c200.code [true, true, true, true, true, false, true, false, false]
theorem g200 : GV Tryz.prog modes c200 200 := .of (hint := nh) (own := false) (by kernel_rfl) (by kernel_rfl) (by kernel_rfl)
@[irreducible] noncomputable def c171 : Ver := verD (cv nh 171 false)
noncomputable def c171_l0 : C := atD c171.code [true, true, false, true, false, false]
theorem g171 : GV Tryz.prog modes c171 171 := .of (hint := nh) (own := false) (by kernel_rfl) (by kernel_rfl) (by kernel_rfl)
@[irreducible] noncomputable def c201 : Ver := verD (cv nh 201 false)
theorem g201 : GV Tryz.prog modes c201 201 := .of (hint := nh) (own := false) (by kernel_rfl) (by kernel_rfl) (by kernel_rfl)
@[irreducible] noncomputable def c173 : Ver := verD (cv nh 173 false)
theorem g173 : GV Tryz.prog modes c173 173 := .of (hint := nh) (own := false) (by kernel_rfl) (by kernel_rfl) (by kernel_rfl)
@[irreducible] noncomputable def c174 : Ver := verD (cv nh 174 false)
noncomputable def c174_l0 : C := atD c174.code [true, true, false, true, false, false]
theorem g174 : GV Tryz.prog modes c174 174 := .of (hint := nh) (own := false) (by kernel_rfl) (by kernel_rfl) (by kernel_rfl)
@[irreducible] noncomputable def c175 : Ver := verD (cv nh 175 false)
noncomputable def c175_l1 : C := atD c175.code [true, true, false, true, false, false, true, false, false, true, false, true, false, false]
noncomputable def c175_l0 : C := atD c175.code [true, true, false, true, false, false]
theorem g175 : GV Tryz.prog modes c175 175 := .of (hint := nh) (own := false) (by kernel_rfl) (by kernel_rfl) (by kernel_rfl)
@[irreducible] noncomputable def c176 : Ver := verD (cv nh 176 false)
noncomputable def c176_l0 : C := atD c176.code [true, false, true, false, false]
theorem g176 : GV Tryz.prog modes c176 176 := .of (hint := nh) (own := false) (by kernel_rfl) (by kernel_rfl) (by kernel_rfl)
@[irreducible] noncomputable def c107 : Ver := verD (cv nh 107 false)
noncomputable def c107_l1 : C := atD c107.code [true, true, true, true, true, true, false, true, false, false, true, false, false, true, true, false, true, false, false]
noncomputable def c107_l0 : C := atD c107.code [true, true, true, true, true, true, false, true, false, false]
noncomputable def c107_l3 : C := atD c107.code [true, true, true, true, true, true, true, true, true, false, true, false, false, true, false, false, true, true, true, true, false, false]
noncomputable def c107_l2 : C := atD c107.code [true, true, true, true, true, true, true, true, true, false, true, false, false]
theorem g107 : GV Tryz.prog modes c107 107 := .of (hint := nh) (own := false) (by kernel_rfl) (by kernel_rfl) (by kernel_rfl)
@[irreducible] noncomputable def c66 : Ver := verD (cv nh 66 false)
theorem g66 : GV Tryz.prog modes c66 66 := .of (hint := nh) (own := false) (by kernel_rfl) (by kernel_rfl) (by kernel_rfl)
@[irreducible] noncomputable def c108 : Ver := verD (cv nh 108 false)
theorem g108 : GV Tryz.prog modes c108 108 := .of (hint := nh) (own := false) (by kernel_rfl) (by kernel_rfl) (by kernel_rfl)
@[irreducible] noncomputable def c67 : Ver := verD (cv (jh [15]) 67 false)
noncomputable def c67_l0 : C := atD c67.code [true, true, true, true, false, false, false, false, false, false]
noncomputable def c67_j0 : C := atD c67.code [true, true, true, true, false, false]
theorem g67 : GV Tryz.prog modes c67 67 := .of (hint := (jh [15])) (own := false) (by kernel_rfl) (by kernel_rfl) (by kernel_rfl)
@[irreducible] noncomputable def c24 : Ver := verD (cv nh 24 false)
noncomputable def c24_l0 : C := atD c24.code [true, true, false, true, false, false]
theorem g24 : GV Tryz.prog modes c24 24 := .of (hint := nh) (own := false) (by kernel_rfl) (by kernel_rfl) (by kernel_rfl)
@[irreducible] noncomputable def c7 : Ver := verD (cv nh 7 false)
noncomputable def c7_l0 : C := atD c7.code [true, true, true, false, true, false, false]
theorem g7 : GV Tryz.prog modes c7 7 := .of (hint := nh) (own := false) (by kernel_rfl) (by kernel_rfl) (by kernel_rfl)
@[irreducible] noncomputable def c11 : Ver := verD (cv nh 11 false)
theorem g11 : GV Tryz.prog modes c11 11 := .of (hint := nh) (own := false) (by kernel_rfl) (by kernel_rfl) (by kernel_rfl)
@[irreducible] noncomputable def c16 : Ver := verD (cv nh 16 false)
theorem g16 : GV Tryz.prog modes c16 16 := .of (hint := nh) (own := false) (by kernel_rfl) (by kernel_rfl) (by kernel_rfl)
@[irreducible] noncomputable def c25 : Ver := verD (cv nh 25 false)
noncomputable def c25_l1 : C := atD c25.code [true, true, false, true, false, false, true, false, false, true, false, true, false, false]
noncomputable def c25_l0 : C := atD c25.code [true, true, false, true, false, false]
theorem g25 : GV Tryz.prog modes c25 25 := .of (hint := nh) (own := false) (by kernel_rfl) (by kernel_rfl) (by kernel_rfl)
@[irreducible] noncomputable def c26 : Ver := verD (cv nh 26 false)
noncomputable def c26_l0 : C := atD c26.code [true, true, false, true, false, false]
theorem g26 : GV Tryz.prog modes c26 26 := .of (hint := nh) (own := false) (by kernel_rfl) (by kernel_rfl) (by kernel_rfl)
@[irreducible] noncomputable def c28 : Ver := verD (cv nh 28 false)
theorem g28 : GV Tryz.prog modes c28 28 := .of (hint := nh) (own := false) (by kernel_rfl) (by kernel_rfl) (by kernel_rfl)
@[irreducible] noncomputable def c109 : Ver := verD (cv nh 109 false)
theorem g109 : GV Tryz.prog modes c109 109 := .of (hint := nh) (own := false) (by kernel_rfl) (by kernel_rfl) (by kernel_rfl)
@[irreducible] noncomputable def c68 : Ver := verD (cv nh 68 false)
theorem g68 : GV Tryz.prog modes c68 68 := .of (hint := nh) (own := false) (by kernel_rfl) (by kernel_rfl) (by kernel_rfl)
@[irreducible] noncomputable def c27 : Ver := verD (cv nh 27 false)
noncomputable def c27_l1 : C := atD c27.code [true, true, false, true, false, false, true, false, false, true, false, true, false, false]
noncomputable def c27_l0 : C := atD c27.code [true, true, false, true, false, false]
theorem g27 : GV Tryz.prog modes c27 27 := .of (hint := nh) (own := false) (by kernel_rfl) (by kernel_rfl) (by kernel_rfl)
@[irreducible] noncomputable def c29 : Ver := verD (cv nh 29 false)
theorem g29 : GV Tryz.prog modes c29 29 := .of (hint := nh) (own := false) (by kernel_rfl) (by kernel_rfl) (by kernel_rfl)
@[irreducible] noncomputable def c30 : Ver := verD (cv nh 30 false)
noncomputable def c30_l0 : C := atD c30.code [true, true, true, true, false, true, false, false]
theorem g30 : GV Tryz.prog modes c30 30 := .of (hint := nh) (own := false) (by kernel_rfl) (by kernel_rfl) (by kernel_rfl)
abbrev h4 : Hint := (jh [511, 1023])
@[irreducible] noncomputable def c4 : Ver := verD (cv h4 4 false)
noncomputable def c4_l0 : C := atD c4.code [true, true, true, true, true, true, true, true, true, false, false, false, true, false, false, false, true, true, true, true, true, true, false, true, false, false]
noncomputable def c4_j1 : C := atD c4.code [true, true, true, true, true, true, true, true, true, false, false, false, true, false, false]
noncomputable def c4_j0 : C := atD c4.code [true, true, true, true, true, true, true, true, true, false, false]
theorem g4 : GV Tryz.prog modes c4 4 := .of (hint := h4) (own := false) (by kernel_rfl) (by kernel_rfl) (by kernel_rfl)
noncomputable def versL : List (Nat × Ver) := [(38, c38), (157, c157), (44, c44), (47, c47), (43, c43), (99, c99), (100, c100), (82, c82), (113, c113), (114, c114), (80, c80), (59, c59), (177, c177), (86, c86), (116, c116), (85, c85), (45, c45), (112, c112), (79, c79), (81, c81), (37, c37), (158, c158), (87, c87), (160, c160), (193, c193), (236, c236), (192, c192), (159, c159), (101, c101), (103, c103), (161, c161), (104, c104), (102, c102), (60, c60), (48, c48), (12, c12), (105, c105), (61, c61), (20, c20), (18, c18), (8, c8), (83, c83), (39, c39), (40, c40), (41, c41), (9, c9), (46, c46), (93, c93), (92, c92), (190, c190), (148, c148), (53, c53), (147, c147), (94, c94), (146, c146), (145, c145), (144, c144), (143, c143), (118, c118), (122, c122), (142, c142), (141, c141), (140, c140), (139, c139), (138, c138), (134, c134), (137, c137), (136, c136), (135, c135), (133, c133), (132, c132), (131, c131), (130, c130), (90, c90), (187, c187), (183, c183), (151, c151), (182, c182), (152, c152), (212, c212), (219, c219), (184, c184), (149, c149), (188, c188), (154, c154), (189, c189), (233, c233), (230, c230), (228, c228), (226, c226), (224, c224), (245, c245), (243, c243), (209, c209), (208, c208), (186, c186), (185, c185), (129, c129), (128, c128), (123, c123), (96, c96), (127, c127), (126, c126), (125, c125), (124, c124), (121, c121), (120, c120), (119, c119), (117, c117), (88, c88), (49, c49), (50, c50), (13, c13), (95, c95), (55, c55), (97, c97), (56, c56), (51, c51), (91, c91), (150, c150), (153, c153), (235, c235), (211, c211), (234, c234), (223, c223), (232, c232), (231, c231), (229, c229), (227, c227), (225, c225), (222, c222), (247, c247), (246, c246), (221, c221), (220, c220), (218, c218), (244, c244), (217, c217), (216, c216), (215, c215), (214, c214), (213, c213), (210, c210), (207, c207), (191, c191), (155, c155), (89, c89), (52, c52), (14, c14), (54, c54), (57, c57), (58, c58), (15, c15), (10, c10), (31, c31), (19, c19), (21, c21), (22, c22), (62, c62), (63, c63), (64, c64), (65, c65), (23, c23), (168, c168), (199, c199), (169, c169), (17, c17), (32, c32), (170, c170), (172, c172), (239, c239), (240, c240), (200, c200), (171, c171), (201, c201), (173, c173), (174, c174), (175, c175), (176, c176), (107, c107), (66, c66), (108, c108), (67, c67), (24, c24), (7, c7), (11, c11), (16, c16), (25, c25), (26, c26), (28, c28), (109, c109), (68, c68), (27, c27), (29, c29), (30, c30), (4, c4)]
theorem versG : AllG Tryz.prog modes versL := ⟨g38, g157, g44, g47, g43, g99, g100, g82, g113, g114, g80, g59, g177, g86, g116, g85, g45, g112, g79, g81, g37, g158, g87, g160, g193, g236, g192, g159, g101, g103, g161, g104, g102, g60, g48, g12, g105, g61, g20, g18, g8, g83, g39, g40, g41, g9, g46, g93, g92, g190, g148, g53, g147, g94, g146, g145, g144, g143, g118, g122, g142, g141, g140, g139, g138, g134, g137, g136, g135, g133, g132, g131, g130, g90, g187, g183, g151, g182, g152, g212, g219, g184, g149, g188, g154, g189, g233, g230, g228, g226, g224, g245, g243, g209, g208, g186, g185, g129, g128, g123, g96, g127, g126, g125, g124, g121, g120, g119, g117, g88, g49, g50, g13, g95, g55, g97, g56, g51, g91, g150, g153, g235, g211, g234, g223, g232, g231, g229, g227, g225, g222, g247, g246, g221, g220, g218, g244, g217, g216, g215, g214, g213, g210, g207, g191, g155, g89, g52, g14, g54, g57, g58, g15, g10, g31, g19, g21, g22, g62, g63, g64, g65, g23, g168, g199, g169, g17, g32, g170, g172, g239, g240, g200, g171, g201, g173, g174, g175, g176, g107, g66, g108, g67, g24, g7, g11, g16, g25, g26, g28, g109, g68, g27, g29, g30, g4, trivial⟩
theorem cv98 : cVer Tryz.prog id modes some ⟨fun _ => none, []⟩ 98 true = some ⟨98, 1, cloneC 1 8 [(J 0)], [.t 2], true⟩ := by kernel_rfl
set_option maxHeartbeats 400000 in
theorem ce98 (w : World) (x : Option Addr) (c : Nat) : Calls Tryz.prog 98 #[.slice x 0 c] w (CopyPost w) := by
  have he := run_eql_snil (P := Tryz.prog) (w := w) (t := 102) (el := 3) (by kernel_rfl) x 0 c
  cases x
  · go_enter Tryz.func98, Tryz.ntmps98
    go_wp2
    exact bodyPost_ret (v := .slice none 0 0) (by simp [results, Tryz.results98, go_sem]) rfl ⟨_, rfl, none, rfl, .inl rfl⟩
  · go_enter Tryz.func98, Tryz.ntmps98
    go_wp2
    exact bodyPost_ret (v := .slice (some _) 0 0) (by simp [results, Tryz.results98, go_sem]; rfl) rfl ⟨_, rfl, _, rfl, .inr ⟨_, rfl⟩⟩
def theFo : Fo := ⟨some, fun g => if g = 0 then some pow10Cells else none⟩
def ext (v : Nat) : List D → Heap → Option (List Nat × List D × Heap) := match v with
  | 98 => cloneX 1 8
  | 42 => itoaX
  | 106 => repX
  | 156 => growX 1 8
  | _ => fun _ _ => none
noncomputable def T : Tab := ⟨vlk versL, ext⟩
theorem tabOK : TabOK Tryz.prog id modes theFo T := by
  refine tab_ok rfl versG fun v ds h r1 r2 r3 he => ?_
  · change ext v ds h = some (r1, r2, r3) at he
    unfold ext at he
    split at he
    · obtain ⟨sz, xs, rfl, rfl, rfl, hr, rfl, rfl, rfl⟩ := cloneX_inv he
      exact ⟨rfl, fun φ Im w args hs hrep => clone_ok (fun _ => rfl) (by kernel_rfl) cv98 (fun w x c => lands_calls (by kernel_rfl) Tryz.func98 (by kernel_rfl) (ce98 w x c)) hr hs hrep⟩
    · exact ⟨itoaX_deep he, fun φ Im w args hs hrep => itoa_ok (G := 0) (by kernel_rfl) Tryz.func42 (by kernel_rfl) (fun n w h0 h1 ht => Tryz.strconv_Itoa n h0 h1 w ht) (by kernel_rfl) (by rfl) he hs hrep⟩
    · exact ⟨repX_deep he, fun φ Im w args hs hrep => rep_ok (by kernel_rfl) Tryz.func106 (by kernel_rfl) (fun s c w h0 h1 => Tryz.strings_Repeat s c w h0 h1) he hs hrep⟩
    · exact ⟨growX_deep he, fun φ Im w args hs hrep => grow_ok Tryz.growL156 (by kernel_rfl) (by kernel_rfl) Tryz.func156 (by kernel_rfl) (t := 3) (by kernel_rfl) (by kernel_rfl) (by decide) he hs hrep⟩
    · cases he
theorem callsOK : CallsOK Tryz.prog theFo (runF T) := runF_ok (fun _ => rfl) tabOK (by kernel_rfl)
end Am
end Go.Proofs.YtfdmmnfjdifccaaGreatDoor

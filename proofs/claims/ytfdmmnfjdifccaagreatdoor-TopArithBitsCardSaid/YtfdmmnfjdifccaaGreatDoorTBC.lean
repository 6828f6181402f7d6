/- The versions that are reached, and that they are what the program comes to. -/
import Derived.Test.YtfdmmnfjdifccaaGreatDoorAs11
import Derived.Test.YtfdmmnfjdifccaaGreatDoorAs9
import Derived.Test.YtfdmmnfjdifccaaGreatDoorSh
import Derived.Test.YtfdmmnfjdifccaaGreatDoorAs10
import Derived.Test.YtfdmmnfjdifccaaGreatDoorProg
import Derived.KernelRfl
set_option linter.unusedVariables false
set_option linter.constructorNameAsVariable false
set_option maxRecDepth 100000
namespace Go.Proofs.YtfdmmnfjdifccaaGreatDoor
namespace Am
def modes : Nat → List Nat := fun v => match v with
  | 8 => [1]
  | 9 => [1]
  | 10 => [1, 1]
  | 12 => [1, 1]
  | 13 => [1]
  | 14 => [1, 1, 1]
  | 15 => [1, 1, 1, 1]
  | 21 => [1, 1]
  | 25 => [1, 1]
  | 26 => [1]
  | 27 => [1, 1]
  | 28 => [1, 1]
  | 30 => [1, 1, 1, 1]
  | 40 => [1]
  | 45 => [0, 2]
  | 49 => [1]
  | 50 => [1]
  | 51 => [1, 1, 1]
  | 52 => [1, 1, 1]
  | 58 => [1, 1, 1, 1]
  | 60 => [1]
  | 85 => [0, 2]
  | 89 => [1, 1, 1]
  | 90 => [1]
  | 91 => [1]
  | 94 => [0, 2]
  | 98 => [1]
  | 116 => [0, 2]
  | 120 => [0, 2]
  | 122 => [2, 0]
  | 126 => [0, 2]
  | 132 => [0, 2]
  | 135 => [0, 2]
  | 140 => [0, 2]
  | 145 => [0, 2]
  | 152 => [0, 2]
  | 155 => [1, 1]
  | 156 => [3, 0]
  | 159 => [0, 2]
  | 164 => [2, 0]
  | 165 => [2, 1]
  | 166 => [2]
  | 167 => [2]
  | 172 => [1]
  | 181 => [1, 1, 1, 1, 1]
  | 185 => [0, 2]
  | 189 => [0, 0, 2]
  | 192 => [0, 2]
  | 197 => [2]
  | 198 => [2, 0]
  | 212 => [1, 2]
  | 219 => [1, 2]
  | 236 => [0, 2]
  | 237 => [1]
  | 238 => [1]
  | 256 => [2]
  | 257 => [2]
  | 258 => [2]
  | 259 => [2]
  | 260 => [2]
  | 261 => [2]
  | 262 => [2]
  | 264 => [2]
  | _ => []
abbrev J (n : Int) : V := .i .i64 n
def verD : Option Ver → Ver
  | some x => x
  | none => ⟨0, 0, .skip, [], false⟩
def atD (c : C) (l : List Bool) : C := match c.at l with
  | some x => x
  | none => .skip
@[irreducible] noncomputable def c38 : Ver := verD (cVer Tryz.prog id modes some ⟨fun n => none, []⟩ 38 false)
theorem ok38 : cVer Tryz.prog id modes some ⟨fun n => none, []⟩ 38 false = some c38 := by kernel_rfl
theorem fid38 : c38.fid = 38 := by kernel_rfl
theorem own38 : c38.own = false := by kernel_rfl
@[irreducible] noncomputable def c47 : Ver := verD (cVer Tryz.prog id modes some ⟨fun n => none, []⟩ 47 false)
theorem ok47 : cVer Tryz.prog id modes some ⟨fun n => none, []⟩ 47 false = some c47 := by kernel_rfl
theorem fid47 : c47.fid = 47 := by kernel_rfl
theorem own47 : c47.own = false := by kernel_rfl
@[irreducible] noncomputable def c44 : Ver := verD (cVer Tryz.prog id modes some ⟨fun n => none, []⟩ 44 false)
theorem ok44 : cVer Tryz.prog id modes some ⟨fun n => none, []⟩ 44 false = some c44 := by kernel_rfl
theorem fid44 : c44.fid = 44 := by kernel_rfl
theorem own44 : c44.own = false := by kernel_rfl
@[irreducible] noncomputable def c43 : Ver := verD (cVer Tryz.prog id modes some ⟨fun n => none, []⟩ 43 false)
noncomputable def c43_l0 : C := atD c43.code [true, false, true, false, false]
theorem ok43 : cVer Tryz.prog id modes some ⟨fun n => none, []⟩ 43 false = some c43 := by kernel_rfl
theorem fid43 : c43.fid = 43 := by kernel_rfl
theorem own43 : c43.own = false := by kernel_rfl
@[irreducible] noncomputable def c100 : Ver := verD (cVer Tryz.prog id modes some ⟨fun n => none, []⟩ 100 false)
theorem ok100 : cVer Tryz.prog id modes some ⟨fun n => none, []⟩ 100 false = some c100 := by kernel_rfl
theorem fid100 : c100.fid = 100 := by kernel_rfl
theorem own100 : c100.own = false := by kernel_rfl
@[irreducible] noncomputable def c114 : Ver := verD (cVer Tryz.prog id modes some ⟨fun n => none, []⟩ 114 false)
theorem ok114 : cVer Tryz.prog id modes some ⟨fun n => none, []⟩ 114 false = some c114 := by kernel_rfl
theorem fid114 : c114.fid = 114 := by kernel_rfl
theorem own114 : c114.own = false := by kernel_rfl
@[irreducible] noncomputable def c177 : Ver := verD (cVer Tryz.prog id modes some ⟨fun n => none, []⟩ 177 false)
theorem ok177 : cVer Tryz.prog id modes some ⟨fun n => none, []⟩ 177 false = some c177 := by kernel_rfl
theorem fid177 : c177.fid = 177 := by kernel_rfl
theorem own177 : c177.own = false := by kernel_rfl
@[irreducible] noncomputable def c86 : Ver := verD (cVer Tryz.prog id modes some ⟨fun n => none, []⟩ 86 false)
theorem ok86 : cVer Tryz.prog id modes some ⟨fun n => none, []⟩ 86 false = some c86 := by kernel_rfl
theorem fid86 : c86.fid = 86 := by kernel_rfl
theorem own86 : c86.own = false := by kernel_rfl
@[irreducible] noncomputable def c116 : Ver := verD (cVer Tryz.prog id modes some ⟨fun n => none, []⟩ 116 false)
noncomputable def c116_l0 : C := atD c116.code [true, false, true, false, false]
theorem ok116 : cVer Tryz.prog id modes some ⟨fun n => none, []⟩ 116 false = some c116 := by kernel_rfl
theorem fid116 : c116.fid = 116 := by kernel_rfl
theorem own116 : c116.own = false := by kernel_rfl
@[irreducible] noncomputable def c85 : Ver := verD (cVer Tryz.prog id modes some ⟨fun n => none, []⟩ 85 false)
theorem ok85 : cVer Tryz.prog id modes some ⟨fun n => none, []⟩ 85 false = some c85 := by kernel_rfl
theorem fid85 : c85.fid = 85 := by kernel_rfl
theorem own85 : c85.own = false := by kernel_rfl
@[irreducible] noncomputable def c45 : Ver := verD (cVer Tryz.prog id modes some ⟨fun n => none, []⟩ 45 false)
theorem ok45 : cVer Tryz.prog id modes some ⟨fun n => none, []⟩ 45 false = some c45 := by kernel_rfl
theorem fid45 : c45.fid = 45 := by kernel_rfl
theorem own45 : c45.own = false := by kernel_rfl
@[irreducible] noncomputable def c112 : Ver := verD (cVer Tryz.prog id modes some ⟨fun n => none, []⟩ 112 false)
theorem ok112 : cVer Tryz.prog id modes some ⟨fun n => none, []⟩ 112 false = some c112 := by kernel_rfl
theorem fid112 : c112.fid = 112 := by kernel_rfl
theorem own112 : c112.own = false := by kernel_rfl
@[irreducible] noncomputable def c79 : Ver := verD (cVer Tryz.prog id modes some ⟨fun n => none, []⟩ 79 false)
theorem ok79 : cVer Tryz.prog id modes some ⟨fun n => none, []⟩ 79 false = some c79 := by kernel_rfl
theorem fid79 : c79.fid = 79 := by kernel_rfl
theorem own79 : c79.own = false := by kernel_rfl
@[irreducible] noncomputable def c81 : Ver := verD (cVer Tryz.prog id modes some ⟨fun n => none, []⟩ 81 false)
theorem ok81 : cVer Tryz.prog id modes some ⟨fun n => none, []⟩ 81 false = some c81 := by kernel_rfl
theorem fid81 : c81.fid = 81 := by kernel_rfl
theorem own81 : c81.own = false := by kernel_rfl
@[irreducible] noncomputable def c82 : Ver := verD (cVer Tryz.prog id modes some ⟨fun n => none, []⟩ 82 false)
theorem ok82 : cVer Tryz.prog id modes some ⟨fun n => none, []⟩ 82 false = some c82 := by kernel_rfl
theorem fid82 : c82.fid = 82 := by kernel_rfl
theorem own82 : c82.own = false := by kernel_rfl
@[irreducible] noncomputable def c113 : Ver := verD (cVer Tryz.prog id modes some ⟨fun n => none, [7]⟩ 113 false)
noncomputable def c113_j0 : C := atD c113.code [true, true, true, false, false]
theorem ok113 : cVer Tryz.prog id modes some ⟨fun n => none, [7]⟩ 113 false = some c113 := by kernel_rfl
theorem fid113 : c113.fid = 113 := by kernel_rfl
theorem own113 : c113.own = false := by kernel_rfl
@[irreducible] noncomputable def c80 : Ver := verD (cVer Tryz.prog id modes some ⟨fun n => none, []⟩ 80 false)
theorem ok80 : cVer Tryz.prog id modes some ⟨fun n => none, []⟩ 80 false = some c80 := by kernel_rfl
theorem fid80 : c80.fid = 80 := by kernel_rfl
theorem own80 : c80.own = false := by kernel_rfl
@[irreducible] noncomputable def c37 : Ver := verD (cVer Tryz.prog id modes some ⟨fun n => none, []⟩ 37 false)
theorem ok37 : cVer Tryz.prog id modes some ⟨fun n => none, []⟩ 37 false = some c37 := by kernel_rfl
theorem fid37 : c37.fid = 37 := by kernel_rfl
theorem own37 : c37.own = false := by kernel_rfl
@[irreducible] noncomputable def c77 : Ver := verD (cVer Tryz.prog id modes some ⟨fun n => none, []⟩ 77 false)
theorem ok77 : cVer Tryz.prog id modes some ⟨fun n => none, []⟩ 77 false = some c77 := by kernel_rfl
theorem fid77 : c77.fid = 77 := by kernel_rfl
theorem own77 : c77.own = false := by kernel_rfl
@[irreducible] noncomputable def c78 : Ver := verD (cVer Tryz.prog id modes some ⟨fun n => none, []⟩ 78 false)
theorem ok78 : cVer Tryz.prog id modes some ⟨fun n => none, []⟩ 78 false = some c78 := by kernel_rfl
theorem fid78 : c78.fid = 78 := by kernel_rfl
theorem own78 : c78.own = false := by kernel_rfl
@[irreducible] noncomputable def c71 : Ver := verD (cVer Tryz.prog id modes some ⟨fun n => none, []⟩ 71 false)
theorem ok71 : cVer Tryz.prog id modes some ⟨fun n => none, []⟩ 71 false = some c71 := by kernel_rfl
theorem fid71 : c71.fid = 71 := by kernel_rfl
theorem own71 : c71.own = false := by kernel_rfl
@[irreducible] noncomputable def c75 : Ver := verD (cVer Tryz.prog id modes some ⟨fun n => none, []⟩ 75 false)
theorem ok75 : cVer Tryz.prog id modes some ⟨fun n => none, []⟩ 75 false = some c75 := by kernel_rfl
theorem fid75 : c75.fid = 75 := by kernel_rfl
theorem own75 : c75.own = false := by kernel_rfl
@[irreducible] noncomputable def c69 : Ver := verD (cVer Tryz.prog id modes some ⟨fun n => none, []⟩ 69 false)
noncomputable def c69_l0 : C := atD c69.code [true, false, true, false, false]
theorem ok69 : cVer Tryz.prog id modes some ⟨fun n => none, []⟩ 69 false = some c69 := by kernel_rfl
theorem fid69 : c69.fid = 69 := by kernel_rfl
theorem own69 : c69.own = false := by kernel_rfl
@[irreducible] noncomputable def c76 : Ver := verD (cVer Tryz.prog id modes some ⟨fun n => none, []⟩ 76 false)
theorem ok76 : cVer Tryz.prog id modes some ⟨fun n => none, []⟩ 76 false = some c76 := by kernel_rfl
theorem fid76 : c76.fid = 76 := by kernel_rfl
theorem own76 : c76.own = false := by kernel_rfl
@[irreducible] noncomputable def c34 : Ver := verD (cVer Tryz.prog id modes some ⟨fun n => none, []⟩ 34 false)
theorem ok34 : cVer Tryz.prog id modes some ⟨fun n => none, []⟩ 34 false = some c34 := by kernel_rfl
theorem fid34 : c34.fid = 34 := by kernel_rfl
theorem own34 : c34.own = false := by kernel_rfl
@[irreducible] noncomputable def c83 : Ver := verD (cVer Tryz.prog id modes some ⟨fun n => none, []⟩ 83 false)
theorem ok83 : cVer Tryz.prog id modes some ⟨fun n => none, []⟩ 83 false = some c83 := by kernel_rfl
theorem fid83 : c83.fid = 83 := by kernel_rfl
theorem own83 : c83.own = false := by kernel_rfl
@[irreducible] noncomputable def c39 : Ver := verD (cVer Tryz.prog id modes some ⟨fun n => none, []⟩ 39 false)
theorem ok39 : cVer Tryz.prog id modes some ⟨fun n => none, []⟩ 39 false = some c39 := by kernel_rfl
theorem fid39 : c39.fid = 39 := by kernel_rfl
theorem own39 : c39.own = false := by kernel_rfl
@[irreducible] noncomputable def c40 : Ver := verD (cVer Tryz.prog id modes some ⟨fun n => none, []⟩ 40 false)
theorem ok40 : cVer Tryz.prog id modes some ⟨fun n => none, []⟩ 40 false = some c40 := by kernel_rfl
theorem fid40 : c40.fid = 40 := by kernel_rfl
theorem own40 : c40.own = false := by kernel_rfl
@[irreducible] noncomputable def c41 : Ver := verD (cVer Tryz.prog id modes some ⟨fun n => if n = 9 then some (0, [1]) else none, []⟩ 41 false)
theorem ok41 : cVer Tryz.prog id modes some ⟨fun n => if n = 9 then some (0, [1]) else none, []⟩ 41 false = some c41 := by kernel_rfl
theorem fid41 : c41.fid = 41 := by kernel_rfl
theorem own41 : c41.own = false := by kernel_rfl
@[irreducible] noncomputable def c9 : Ver := verD (cVer Tryz.prog id modes some ⟨fun n => if n = 82 then some (0, [1]) else if n = 95 then some (0, [1]) else if n = 108 then some (0, [1]) else if n = 117 then some (0, [1]) else none, [523929]⟩ 9 false)
noncomputable def c9_j0 : C := atD c9.code [true, true, true, true, true, true, true, true, true, false, true, false, false, true, true, false, false, true, true, false, false]
noncomputable def c9_l0 : C := atD c9.code [true, true, true, true, true, true, true, true, true, false, true, false, false]
theorem ok9 : cVer Tryz.prog id modes some ⟨fun n => if n = 82 then some (0, [1]) else if n = 95 then some (0, [1]) else if n = 108 then some (0, [1]) else if n = 117 then some (0, [1]) else none, [523929]⟩ 9 false = some c9 := by kernel_rfl
theorem fid9 : c9.fid = 9 := by kernel_rfl
theorem own9 : c9.own = false := by kernel_rfl
@[irreducible] noncomputable def c46 : Ver := verD (cVer Tryz.prog id modes some ⟨fun n => none, []⟩ 46 false)
theorem ok46 : cVer Tryz.prog id modes some ⟨fun n => none, []⟩ 46 false = some c46 := by kernel_rfl
theorem fid46 : c46.fid = 46 := by kernel_rfl
theorem own46 : c46.own = false := by kernel_rfl
@[irreducible] noncomputable def c93 : Ver := verD (cVer Tryz.prog id modes some ⟨fun n => none, []⟩ 93 false)
theorem ok93 : cVer Tryz.prog id modes some ⟨fun n => none, []⟩ 93 false = some c93 := by kernel_rfl
theorem fid93 : c93.fid = 93 := by kernel_rfl
theorem own93 : c93.own = false := by kernel_rfl
@[irreducible] noncomputable def c92 : Ver := verD (cVer Tryz.prog id modes some ⟨fun n => none, []⟩ 92 false)
theorem ok92 : cVer Tryz.prog id modes some ⟨fun n => none, []⟩ 92 false = some c92 := by kernel_rfl
theorem fid92 : c92.fid = 92 := by kernel_rfl
theorem own92 : c92.own = false := by kernel_rfl
@[irreducible] noncomputable def c190 : Ver := verD (cVer Tryz.prog id modes some ⟨fun n => none, []⟩ 190 false)
noncomputable def c190_l0 : C := atD c190.code [true, false, true, false, false]
theorem ok190 : cVer Tryz.prog id modes some ⟨fun n => none, []⟩ 190 false = some c190 := by kernel_rfl
theorem fid190 : c190.fid = 190 := by kernel_rfl
theorem own190 : c190.own = false := by kernel_rfl
@[irreducible] noncomputable def c148 : Ver := verD (cVer Tryz.prog id modes some ⟨fun n => none, []⟩ 148 false)
theorem ok148 : cVer Tryz.prog id modes some ⟨fun n => none, []⟩ 148 false = some c148 := by kernel_rfl
theorem fid148 : c148.fid = 148 := by kernel_rfl
theorem own148 : c148.own = false := by kernel_rfl
@[irreducible] noncomputable def c53 : Ver := verD (cVer Tryz.prog id modes some ⟨fun n => none, []⟩ 53 false)
noncomputable def c53_l0 : C := atD c53.code [true, false, true, false, false]
theorem ok53 : cVer Tryz.prog id modes some ⟨fun n => none, []⟩ 53 false = some c53 := by kernel_rfl
theorem fid53 : c53.fid = 53 := by kernel_rfl
theorem own53 : c53.own = false := by kernel_rfl
@[irreducible] noncomputable def c147 : Ver := verD (cVer Tryz.prog id modes some ⟨fun n => none, []⟩ 147 false)
theorem ok147 : cVer Tryz.prog id modes some ⟨fun n => none, []⟩ 147 false = some c147 := by kernel_rfl
theorem fid147 : c147.fid = 147 := by kernel_rfl
theorem own147 : c147.own = false := by kernel_rfl
@[irreducible] noncomputable def c94 : Ver := verD (cVer Tryz.prog id modes some ⟨fun n => none, []⟩ 94 false)
noncomputable def c94_l0 : C := atD c94.code [true, false, true, false, false]
theorem ok94 : cVer Tryz.prog id modes some ⟨fun n => none, []⟩ 94 false = some c94 := by kernel_rfl
theorem fid94 : c94.fid = 94 := by kernel_rfl
theorem own94 : c94.own = false := by kernel_rfl
@[irreducible] noncomputable def c146 : Ver := verD (cVer Tryz.prog id modes some ⟨fun n => none, []⟩ 146 false)
theorem ok146 : cVer Tryz.prog id modes some ⟨fun n => none, []⟩ 146 false = some c146 := by kernel_rfl
theorem fid146 : c146.fid = 146 := by kernel_rfl
theorem own146 : c146.own = false := by kernel_rfl
@[irreducible] noncomputable def c145 : Ver := verD (cVer Tryz.prog id modes some ⟨fun n => none, []⟩ 145 false)
noncomputable def c145_l0 : C := atD c145.code [true, false, true, false, false]
theorem ok145 : cVer Tryz.prog id modes some ⟨fun n => none, []⟩ 145 false = some c145 := by kernel_rfl
theorem fid145 : c145.fid = 145 := by kernel_rfl
theorem own145 : c145.own = false := by kernel_rfl
@[irreducible] noncomputable def c144 : Ver := verD (cVer Tryz.prog id modes some ⟨fun n => none, []⟩ 144 false)
theorem ok144 : cVer Tryz.prog id modes some ⟨fun n => none, []⟩ 144 false = some c144 := by kernel_rfl
theorem fid144 : c144.fid = 144 := by kernel_rfl
theorem own144 : c144.own = false := by kernel_rfl
@[irreducible] noncomputable def c143 : Ver := verD (cVer Tryz.prog id modes some ⟨fun n => none, []⟩ 143 false)
theorem ok143 : cVer Tryz.prog id modes some ⟨fun n => none, []⟩ 143 false = some c143 := by kernel_rfl
theorem fid143 : c143.fid = 143 := by kernel_rfl
theorem own143 : c143.own = false := by kernel_rfl
@[irreducible] noncomputable def c118 : Ver := verD (cVer Tryz.prog id modes some ⟨fun n => none, []⟩ 118 false)
noncomputable def c118_l0 : C := atD c118.code [true, false, true, false, false]
theorem ok118 : cVer Tryz.prog id modes some ⟨fun n => none, []⟩ 118 false = some c118 := by kernel_rfl
theorem fid118 : c118.fid = 118 := by kernel_rfl
theorem own118 : c118.own = false := by kernel_rfl
@[irreducible] noncomputable def c122 : Ver := verD (cVer Tryz.prog id modes some ⟨fun n => none, []⟩ 122 false)
theorem ok122 : cVer Tryz.prog id modes some ⟨fun n => none, []⟩ 122 false = some c122 := by kernel_rfl
theorem fid122 : c122.fid = 122 := by kernel_rfl
theorem own122 : c122.own = false := by kernel_rfl
@[irreducible] noncomputable def c142 : Ver := verD (cVer Tryz.prog id modes some ⟨fun n => none, []⟩ 142 false)
theorem ok142 : cVer Tryz.prog id modes some ⟨fun n => none, []⟩ 142 false = some c142 := by kernel_rfl
theorem fid142 : c142.fid = 142 := by kernel_rfl
theorem own142 : c142.own = false := by kernel_rfl
@[irreducible] noncomputable def c141 : Ver := verD (cVer Tryz.prog id modes some ⟨fun n => none, []⟩ 141 false)
theorem ok141 : cVer Tryz.prog id modes some ⟨fun n => none, []⟩ 141 false = some c141 := by kernel_rfl
theorem fid141 : c141.fid = 141 := by kernel_rfl
theorem own141 : c141.own = false := by kernel_rfl
@[irreducible] noncomputable def c140 : Ver := verD (cVer Tryz.prog id modes some ⟨fun n => none, []⟩ 140 false)
noncomputable def c140_l0 : C := atD c140.code [true, false, true, false, false]
theorem ok140 : cVer Tryz.prog id modes some ⟨fun n => none, []⟩ 140 false = some c140 := by kernel_rfl
theorem fid140 : c140.fid = 140 := by kernel_rfl
theorem own140 : c140.own = false := by kernel_rfl
@[irreducible] noncomputable def c139 : Ver := verD (cVer Tryz.prog id modes some ⟨fun n => none, []⟩ 139 false)
theorem ok139 : cVer Tryz.prog id modes some ⟨fun n => none, []⟩ 139 false = some c139 := by kernel_rfl
theorem fid139 : c139.fid = 139 := by kernel_rfl
theorem own139 : c139.own = false := by kernel_rfl
@[irreducible] noncomputable def c138 : Ver := verD (cVer Tryz.prog id modes some ⟨fun n => none, []⟩ 138 false)
theorem ok138 : cVer Tryz.prog id modes some ⟨fun n => none, []⟩ 138 false = some c138 := by kernel_rfl
theorem fid138 : c138.fid = 138 := by kernel_rfl
theorem own138 : c138.own = false := by kernel_rfl
@[irreducible] noncomputable def c134 : Ver := verD (cVer Tryz.prog id modes some ⟨fun n => none, []⟩ 134 false)
theorem ok134 : cVer Tryz.prog id modes some ⟨fun n => none, []⟩ 134 false = some c134 := by kernel_rfl
theorem fid134 : c134.fid = 134 := by kernel_rfl
theorem own134 : c134.own = false := by kernel_rfl
@[irreducible] noncomputable def c137 : Ver := verD (cVer Tryz.prog id modes some ⟨fun n => none, []⟩ 137 false)
theorem ok137 : cVer Tryz.prog id modes some ⟨fun n => none, []⟩ 137 false = some c137 := by kernel_rfl
theorem fid137 : c137.fid = 137 := by kernel_rfl
theorem own137 : c137.own = false := by kernel_rfl
@[irreducible] noncomputable def c136 : Ver := verD (cVer Tryz.prog id modes some ⟨fun n => none, []⟩ 136 false)
theorem ok136 : cVer Tryz.prog id modes some ⟨fun n => none, []⟩ 136 false = some c136 := by kernel_rfl
theorem fid136 : c136.fid = 136 := by kernel_rfl
theorem own136 : c136.own = false := by kernel_rfl
@[irreducible] noncomputable def c135 : Ver := verD (cVer Tryz.prog id modes some ⟨fun n => none, []⟩ 135 false)
noncomputable def c135_l0 : C := atD c135.code [true, false, true, false, false]
theorem ok135 : cVer Tryz.prog id modes some ⟨fun n => none, []⟩ 135 false = some c135 := by kernel_rfl
theorem fid135 : c135.fid = 135 := by kernel_rfl
theorem own135 : c135.own = false := by kernel_rfl
@[irreducible] noncomputable def c133 : Ver := verD (cVer Tryz.prog id modes some ⟨fun n => none, []⟩ 133 false)
theorem ok133 : cVer Tryz.prog id modes some ⟨fun n => none, []⟩ 133 false = some c133 := by kernel_rfl
theorem fid133 : c133.fid = 133 := by kernel_rfl
theorem own133 : c133.own = false := by kernel_rfl
@[irreducible] noncomputable def c132 : Ver := verD (cVer Tryz.prog id modes some ⟨fun n => none, []⟩ 132 false)
noncomputable def c132_l0 : C := atD c132.code [true, false, true, false, false]
theorem ok132 : cVer Tryz.prog id modes some ⟨fun n => none, []⟩ 132 false = some c132 := by kernel_rfl
theorem fid132 : c132.fid = 132 := by kernel_rfl
theorem own132 : c132.own = false := by kernel_rfl
@[irreducible] noncomputable def c131 : Ver := verD (cVer Tryz.prog id modes some ⟨fun n => none, []⟩ 131 false)
theorem ok131 : cVer Tryz.prog id modes some ⟨fun n => none, []⟩ 131 false = some c131 := by kernel_rfl
theorem fid131 : c131.fid = 131 := by kernel_rfl
theorem own131 : c131.own = false := by kernel_rfl
@[irreducible] noncomputable def c130 : Ver := verD (cVer Tryz.prog id modes some ⟨fun n => none, []⟩ 130 false)
theorem ok130 : cVer Tryz.prog id modes some ⟨fun n => none, []⟩ 130 false = some c130 := by kernel_rfl
theorem fid130 : c130.fid = 130 := by kernel_rfl
theorem own130 : c130.own = false := by kernel_rfl
@[irreducible] noncomputable def c90 : Ver := verD (cVer Tryz.prog id modes some ⟨fun n => none, []⟩ 90 false)
noncomputable def c90_l0 : C := atD c90.code [true, true, false, true, false, false]
noncomputable def c90_l1 : C := atD c90.code [true, true, true, false, true, false, false]
theorem ok90 : cVer Tryz.prog id modes some ⟨fun n => none, []⟩ 90 false = some c90 := by kernel_rfl
theorem fid90 : c90.fid = 90 := by kernel_rfl
theorem own90 : c90.own = false := by kernel_rfl
@[irreducible] noncomputable def c187 : Ver := verD (cVer Tryz.prog id modes some ⟨fun n => none, []⟩ 187 false)
theorem ok187 : cVer Tryz.prog id modes some ⟨fun n => none, []⟩ 187 false = some c187 := by kernel_rfl
theorem fid187 : c187.fid = 187 := by kernel_rfl
theorem own187 : c187.own = false := by kernel_rfl
@[irreducible] noncomputable def c183 : Ver := verD (cVer Tryz.prog id modes some ⟨fun n => none, []⟩ 183 false)
theorem ok183 : cVer Tryz.prog id modes some ⟨fun n => none, []⟩ 183 false = some c183 := by kernel_rfl
theorem fid183 : c183.fid = 183 := by kernel_rfl
theorem own183 : c183.own = false := by kernel_rfl
@[irreducible] noncomputable def c151 : Ver := verD (cVer Tryz.prog id modes some ⟨fun n => none, []⟩ 151 false)
theorem ok151 : cVer Tryz.prog id modes some ⟨fun n => none, []⟩ 151 false = some c151 := by kernel_rfl
theorem fid151 : c151.fid = 151 := by kernel_rfl
theorem own151 : c151.own = false := by kernel_rfl
@[irreducible] noncomputable def c182 : Ver := verD (cVer Tryz.prog id modes some ⟨fun n => none, []⟩ 182 false)
theorem ok182 : cVer Tryz.prog id modes some ⟨fun n => none, []⟩ 182 false = some c182 := by kernel_rfl
theorem fid182 : c182.fid = 182 := by kernel_rfl
theorem own182 : c182.own = false := by kernel_rfl
@[irreducible] noncomputable def c152 : Ver := verD (cVer Tryz.prog id modes some ⟨fun n => none, []⟩ 152 false)
noncomputable def c152_l0 : C := atD c152.code [true, false, true, false, false]
theorem ok152 : cVer Tryz.prog id modes some ⟨fun n => none, []⟩ 152 false = some c152 := by kernel_rfl
theorem fid152 : c152.fid = 152 := by kernel_rfl
theorem own152 : c152.own = false := by kernel_rfl
@[irreducible] noncomputable def c212 : Ver := verD (cVer Tryz.prog id modes some ⟨fun n => none, []⟩ 212 false)
theorem ok212 : cVer Tryz.prog id modes some ⟨fun n => none, []⟩ 212 false = some c212 := by kernel_rfl
theorem fid212 : c212.fid = 212 := by kernel_rfl
theorem own212 : c212.own = false := by kernel_rfl
@[irreducible] noncomputable def c219 : Ver := verD (cVer Tryz.prog id modes some ⟨fun n => none, []⟩ 219 false)
theorem ok219 : cVer Tryz.prog id modes some ⟨fun n => none, []⟩ 219 false = some c219 := by kernel_rfl
theorem fid219 : c219.fid = 219 := by kernel_rfl
theorem own219 : c219.own = false := by kernel_rfl
@[irreducible] noncomputable def c184 : Ver := verD (cVer Tryz.prog id modes some ⟨fun n => none, []⟩ 184 false)
theorem ok184 : cVer Tryz.prog id modes some ⟨fun n => none, []⟩ 184 false = some c184 := by kernel_rfl
theorem fid184 : c184.fid = 184 := by kernel_rfl
theorem own184 : c184.own = false := by kernel_rfl
@[irreducible] noncomputable def c149 : Ver := verD (cVer Tryz.prog id modes some ⟨fun n => none, []⟩ 149 false)
noncomputable def c149_l0 : C := atD c149.code [true, false, true, false, false]
theorem ok149 : cVer Tryz.prog id modes some ⟨fun n => none, []⟩ 149 false = some c149 := by kernel_rfl
theorem fid149 : c149.fid = 149 := by kernel_rfl
theorem own149 : c149.own = false := by kernel_rfl
@[irreducible] noncomputable def c188 : Ver := verD (cVer Tryz.prog id modes some ⟨fun n => none, []⟩ 188 false)
theorem ok188 : cVer Tryz.prog id modes some ⟨fun n => none, []⟩ 188 false = some c188 := by kernel_rfl
theorem fid188 : c188.fid = 188 := by kernel_rfl
theorem own188 : c188.own = false := by kernel_rfl
@[irreducible] noncomputable def c154 : Ver := verD (cVer Tryz.prog id modes some ⟨fun n => none, []⟩ 154 false)
theorem ok154 : cVer Tryz.prog id modes some ⟨fun n => none, []⟩ 154 false = some c154 := by kernel_rfl
theorem fid154 : c154.fid = 154 := by kernel_rfl
theorem own154 : c154.own = false := by kernel_rfl
@[irreducible] noncomputable def c189 : Ver := verD (cVer Tryz.prog id modes some ⟨fun n => none, []⟩ 189 false)
theorem ok189 : cVer Tryz.prog id modes some ⟨fun n => none, []⟩ 189 false = some c189 := by kernel_rfl
theorem fid189 : c189.fid = 189 := by kernel_rfl
theorem own189 : c189.own = false := by kernel_rfl
@[irreducible] noncomputable def c233 : Ver := verD (cVer Tryz.prog id modes some ⟨fun n => none, []⟩ 233 false)
theorem ok233 : cVer Tryz.prog id modes some ⟨fun n => none, []⟩ 233 false = some c233 := by kernel_rfl
theorem fid233 : c233.fid = 233 := by kernel_rfl
theorem own233 : c233.own = false := by kernel_rfl
@[irreducible] noncomputable def c230 : Ver := verD (cVer Tryz.prog id modes some ⟨fun n => none, []⟩ 230 false)
theorem ok230 : cVer Tryz.prog id modes some ⟨fun n => none, []⟩ 230 false = some c230 := by kernel_rfl
theorem fid230 : c230.fid = 230 := by kernel_rfl
theorem own230 : c230.own = false := by kernel_rfl
@[irreducible] noncomputable def c228 : Ver := verD (cVer Tryz.prog id modes some ⟨fun n => none, []⟩ 228 false)
theorem ok228 : cVer Tryz.prog id modes some ⟨fun n => none, []⟩ 228 false = some c228 := by kernel_rfl
theorem fid228 : c228.fid = 228 := by kernel_rfl
theorem own228 : c228.own = false := by kernel_rfl
@[irreducible] noncomputable def c226 : Ver := verD (cVer Tryz.prog id modes some ⟨fun n => none, []⟩ 226 false)
theorem ok226 : cVer Tryz.prog id modes some ⟨fun n => none, []⟩ 226 false = some c226 := by kernel_rfl
theorem fid226 : c226.fid = 226 := by kernel_rfl
theorem own226 : c226.own = false := by kernel_rfl
@[irreducible] noncomputable def c224 : Ver := verD (cVer Tryz.prog id modes some ⟨fun n => none, []⟩ 224 false)
theorem ok224 : cVer Tryz.prog id modes some ⟨fun n => none, []⟩ 224 false = some c224 := by kernel_rfl
theorem fid224 : c224.fid = 224 := by kernel_rfl
theorem own224 : c224.own = false := by kernel_rfl
@[irreducible] noncomputable def c245 : Ver := verD (cVer Tryz.prog id modes some ⟨fun n => none, []⟩ 245 false)
theorem ok245 : cVer Tryz.prog id modes some ⟨fun n => none, []⟩ 245 false = some c245 := by kernel_rfl
theorem fid245 : c245.fid = 245 := by kernel_rfl
theorem own245 : c245.own = false := by kernel_rfl
@[irreducible] noncomputable def c243 : Ver := verD (cVer Tryz.prog id modes some ⟨fun n => none, []⟩ 243 false)
theorem ok243 : cVer Tryz.prog id modes some ⟨fun n => none, []⟩ 243 false = some c243 := by kernel_rfl
theorem fid243 : c243.fid = 243 := by kernel_rfl
theorem own243 : c243.own = false := by kernel_rfl
@[irreducible] noncomputable def c209 : Ver := verD (cVer Tryz.prog id modes some ⟨fun n => none, []⟩ 209 false)
theorem ok209 : cVer Tryz.prog id modes some ⟨fun n => none, []⟩ 209 false = some c209 := by kernel_rfl
theorem fid209 : c209.fid = 209 := by kernel_rfl
theorem own209 : c209.own = false := by kernel_rfl
@[irreducible] noncomputable def c208 : Ver := verD (cVer Tryz.prog id modes some ⟨fun n => none, []⟩ 208 false)
theorem ok208 : cVer Tryz.prog id modes some ⟨fun n => none, []⟩ 208 false = some c208 := by kernel_rfl
theorem fid208 : c208.fid = 208 := by kernel_rfl
theorem own208 : c208.own = false := by kernel_rfl
@[irreducible] noncomputable def c186 : Ver := verD (cVer Tryz.prog id modes some ⟨fun n => if n = 77 then some (0, [0, 0, 0, 208, 209, 224, 226, 228, 230, 233, 245]) else none, [15, 127]⟩ 186 false)
noncomputable def c186_l0 : C := atD c186.code [true, true, true, true, false, false, false, true, true, false, true, false, false]
noncomputable def c186_j1 : C := atD c186.code [true, true, true, true, false, false, false, true, true, true, false, false]
noncomputable def c186_j0 : C := atD c186.code [true, true, true, true, false, false]
theorem ok186 : cVer Tryz.prog id modes some ⟨fun n => if n = 77 then some (0, [0, 0, 0, 208, 209, 224, 226, 228, 230, 233, 245]) else none, [15, 127]⟩ 186 false = some c186 := by kernel_rfl
theorem fid186 : c186.fid = 186 := by kernel_rfl
theorem own186 : c186.own = false := by kernel_rfl
@[irreducible] noncomputable def c185 : Ver := verD (cVer Tryz.prog id modes some ⟨fun n => none, []⟩ 185 false)
noncomputable def c185_l0 : C := atD c185.code [true, false, true, false, false]
theorem ok185 : cVer Tryz.prog id modes some ⟨fun n => none, []⟩ 185 false = some c185 := by kernel_rfl
theorem fid185 : c185.fid = 185 := by kernel_rfl
theorem own185 : c185.own = false := by kernel_rfl
@[irreducible] noncomputable def c129 : Ver := verD (cVer Tryz.prog id modes some ⟨fun n => none, []⟩ 129 false)
theorem ok129 : cVer Tryz.prog id modes some ⟨fun n => none, []⟩ 129 false = some c129 := by kernel_rfl
theorem fid129 : c129.fid = 129 := by kernel_rfl
theorem own129 : c129.own = false := by kernel_rfl
@[irreducible] noncomputable def c128 : Ver := verD (cVer Tryz.prog id modes some ⟨fun n => none, []⟩ 128 false)
theorem ok128 : cVer Tryz.prog id modes some ⟨fun n => none, []⟩ 128 false = some c128 := by kernel_rfl
theorem fid128 : c128.fid = 128 := by kernel_rfl
theorem own128 : c128.own = false := by kernel_rfl
@[irreducible] noncomputable def c123 : Ver := verD (cVer Tryz.prog id modes some ⟨fun n => none, []⟩ 123 false)
theorem ok123 : cVer Tryz.prog id modes some ⟨fun n => none, []⟩ 123 false = some c123 := by kernel_rfl
theorem fid123 : c123.fid = 123 := by kernel_rfl
theorem own123 : c123.own = false := by kernel_rfl
@[irreducible] noncomputable def c96 : Ver := verD (cVer Tryz.prog id modes some ⟨fun n => none, []⟩ 96 false)
theorem ok96 : cVer Tryz.prog id modes some ⟨fun n => none, []⟩ 96 false = some c96 := by kernel_rfl
theorem fid96 : c96.fid = 96 := by kernel_rfl
theorem own96 : c96.own = false := by kernel_rfl
@[irreducible] noncomputable def c127 : Ver := verD (cVer Tryz.prog id modes some ⟨fun n => none, []⟩ 127 false)
theorem ok127 : cVer Tryz.prog id modes some ⟨fun n => none, []⟩ 127 false = some c127 := by kernel_rfl
theorem fid127 : c127.fid = 127 := by kernel_rfl
theorem own127 : c127.own = false := by kernel_rfl
@[irreducible] noncomputable def c126 : Ver := verD (cVer Tryz.prog id modes some ⟨fun n => none, []⟩ 126 false)
noncomputable def c126_l0 : C := atD c126.code [true, false, true, false, false]
theorem ok126 : cVer Tryz.prog id modes some ⟨fun n => none, []⟩ 126 false = some c126 := by kernel_rfl
theorem fid126 : c126.fid = 126 := by kernel_rfl
theorem own126 : c126.own = false := by kernel_rfl
@[irreducible] noncomputable def c125 : Ver := verD (cVer Tryz.prog id modes some ⟨fun n => none, []⟩ 125 false)
theorem ok125 : cVer Tryz.prog id modes some ⟨fun n => none, []⟩ 125 false = some c125 := by kernel_rfl
theorem fid125 : c125.fid = 125 := by kernel_rfl
theorem own125 : c125.own = false := by kernel_rfl
@[irreducible] noncomputable def c124 : Ver := verD (cVer Tryz.prog id modes some ⟨fun n => none, []⟩ 124 false)
theorem ok124 : cVer Tryz.prog id modes some ⟨fun n => none, []⟩ 124 false = some c124 := by kernel_rfl
theorem fid124 : c124.fid = 124 := by kernel_rfl
theorem own124 : c124.own = false := by kernel_rfl
@[irreducible] noncomputable def c121 : Ver := verD (cVer Tryz.prog id modes some ⟨fun n => none, []⟩ 121 false)
theorem ok121 : cVer Tryz.prog id modes some ⟨fun n => none, []⟩ 121 false = some c121 := by kernel_rfl
theorem fid121 : c121.fid = 121 := by kernel_rfl
theorem own121 : c121.own = false := by kernel_rfl
@[irreducible] noncomputable def c120 : Ver := verD (cVer Tryz.prog id modes some ⟨fun n => none, []⟩ 120 false)
noncomputable def c120_l0 : C := atD c120.code [true, false, true, false, false]
theorem ok120 : cVer Tryz.prog id modes some ⟨fun n => none, []⟩ 120 false = some c120 := by kernel_rfl
theorem fid120 : c120.fid = 120 := by kernel_rfl
theorem own120 : c120.own = false := by kernel_rfl
@[irreducible] noncomputable def c119 : Ver := verD (cVer Tryz.prog id modes some ⟨fun n => none, []⟩ 119 false)
theorem ok119 : cVer Tryz.prog id modes some ⟨fun n => none, []⟩ 119 false = some c119 := by kernel_rfl
theorem fid119 : c119.fid = 119 := by kernel_rfl
theorem own119 : c119.own = false := by kernel_rfl
@[irreducible] noncomputable def c117 : Ver := verD (cVer Tryz.prog id modes some ⟨fun n => none, []⟩ 117 false)
theorem ok117 : cVer Tryz.prog id modes some ⟨fun n => none, []⟩ 117 false = some c117 := by kernel_rfl
theorem fid117 : c117.fid = 117 := by kernel_rfl
theorem own117 : c117.own = false := by kernel_rfl
@[irreducible] noncomputable def c88 : Ver := verD (cVer Tryz.prog id modes some ⟨fun n => none, []⟩ 88 false)
noncomputable def c88_l0 : C := atD c88.code [true, true, true, true, false, true, false, false]
theorem ok88 : cVer Tryz.prog id modes some ⟨fun n => none, []⟩ 88 false = some c88 := by kernel_rfl
theorem fid88 : c88.fid = 88 := by kernel_rfl
theorem own88 : c88.own = false := by kernel_rfl
@[irreducible] noncomputable def c49 : Ver := verD (cVer Tryz.prog id modes some ⟨fun n => none, []⟩ 49 false)
theorem ok49 : cVer Tryz.prog id modes some ⟨fun n => none, []⟩ 49 false = some c49 := by kernel_rfl
theorem fid49 : c49.fid = 49 := by kernel_rfl
theorem own49 : c49.own = false := by kernel_rfl
@[irreducible] noncomputable def c50 : Ver := verD (cVer Tryz.prog id modes some ⟨fun n => none, []⟩ 50 false)
noncomputable def c50_l0 : C := atD c50.code [true, true, false, true, false, false]
theorem ok50 : cVer Tryz.prog id modes some ⟨fun n => none, []⟩ 50 false = some c50 := by kernel_rfl
theorem fid50 : c50.fid = 50 := by kernel_rfl
theorem own50 : c50.own = false := by kernel_rfl
@[irreducible] noncomputable def c13 : Ver := verD (cVer Tryz.prog id modes some ⟨fun n => none, []⟩ 13 false)
theorem ok13 : cVer Tryz.prog id modes some ⟨fun n => none, []⟩ 13 false = some c13 := by kernel_rfl
theorem fid13 : c13.fid = 13 := by kernel_rfl
theorem own13 : c13.own = false := by kernel_rfl
@[irreducible] noncomputable def c95 : Ver := verD (cVer Tryz.prog id modes some ⟨fun n => none, []⟩ 95 false)
theorem ok95 : cVer Tryz.prog id modes some ⟨fun n => none, []⟩ 95 false = some c95 := by kernel_rfl
theorem fid95 : c95.fid = 95 := by kernel_rfl
theorem own95 : c95.own = false := by kernel_rfl
@[irreducible] noncomputable def c55 : Ver := verD (cVer Tryz.prog id modes some ⟨fun n => none, []⟩ 55 false)
theorem ok55 : cVer Tryz.prog id modes some ⟨fun n => none, []⟩ 55 false = some c55 := by kernel_rfl
theorem fid55 : c55.fid = 55 := by kernel_rfl
theorem own55 : c55.own = false := by kernel_rfl
@[irreducible] noncomputable def c97 : Ver := verD (cVer Tryz.prog id modes some ⟨fun n => none, []⟩ 97 false)
theorem ok97 : cVer Tryz.prog id modes some ⟨fun n => none, []⟩ 97 false = some c97 := by kernel_rfl
theorem fid97 : c97.fid = 97 := by kernel_rfl
theorem own97 : c97.own = false := by kernel_rfl
@[irreducible] noncomputable def c56 : Ver := verD (cVer Tryz.prog id modes some ⟨fun n => none, []⟩ 56 false)
theorem ok56 : cVer Tryz.prog id modes some ⟨fun n => none, []⟩ 56 false = some c56 := by kernel_rfl
theorem fid56 : c56.fid = 56 := by kernel_rfl
theorem own56 : c56.own = false := by kernel_rfl
@[irreducible] noncomputable def c51 : Ver := verD (cVer Tryz.prog id modes some ⟨fun n => none, []⟩ 51 false)
theorem ok51 : cVer Tryz.prog id modes some ⟨fun n => none, []⟩ 51 false = some c51 := by kernel_rfl
theorem fid51 : c51.fid = 51 := by kernel_rfl
theorem own51 : c51.own = false := by kernel_rfl
@[irreducible] noncomputable def c91 : Ver := verD (cVer Tryz.prog id modes some ⟨fun n => none, []⟩ 91 false)
noncomputable def c91_l0 : C := atD c91.code [true, true, false, true, false, false]
noncomputable def c91_l1 : C := atD c91.code [true, true, true, true, false, true, false, false]
theorem ok91 : cVer Tryz.prog id modes some ⟨fun n => none, []⟩ 91 false = some c91 := by kernel_rfl
theorem fid91 : c91.fid = 91 := by kernel_rfl
theorem own91 : c91.own = false := by kernel_rfl
@[irreducible] noncomputable def c150 : Ver := verD (cVer Tryz.prog id modes some ⟨fun n => none, []⟩ 150 false)
theorem ok150 : cVer Tryz.prog id modes some ⟨fun n => none, []⟩ 150 false = some c150 := by kernel_rfl
theorem fid150 : c150.fid = 150 := by kernel_rfl
theorem own150 : c150.own = false := by kernel_rfl
@[irreducible] noncomputable def c153 : Ver := verD (cVer Tryz.prog id modes some ⟨fun n => none, []⟩ 153 false)
theorem ok153 : cVer Tryz.prog id modes some ⟨fun n => none, []⟩ 153 false = some c153 := by kernel_rfl
theorem fid153 : c153.fid = 153 := by kernel_rfl
theorem own153 : c153.own = false := by kernel_rfl
@[irreducible] noncomputable def c235 : Ver := verD (cVer Tryz.prog id modes some ⟨fun n => none, []⟩ 235 false)
theorem ok235 : cVer Tryz.prog id modes some ⟨fun n => none, []⟩ 235 false = some c235 := by kernel_rfl
theorem fid235 : c235.fid = 235 := by kernel_rfl
theorem own235 : c235.own = false := by kernel_rfl
@[irreducible] noncomputable def c211 : Ver := verD (cVer Tryz.prog id modes some ⟨fun n => none, []⟩ 211 false)
theorem ok211 : cVer Tryz.prog id modes some ⟨fun n => none, []⟩ 211 false = some c211 := by kernel_rfl
theorem fid211 : c211.fid = 211 := by kernel_rfl
theorem own211 : c211.own = false := by kernel_rfl
@[irreducible] noncomputable def c234 : Ver := verD (cVer Tryz.prog id modes some ⟨fun n => none, []⟩ 234 false)
theorem ok234 : cVer Tryz.prog id modes some ⟨fun n => none, []⟩ 234 false = some c234 := by kernel_rfl
theorem fid234 : c234.fid = 234 := by kernel_rfl
theorem own234 : c234.own = false := by kernel_rfl
@[irreducible] noncomputable def c223 : Ver := verD (cVer Tryz.prog id modes some ⟨fun n => none, []⟩ 223 false)
theorem ok223 : cVer Tryz.prog id modes some ⟨fun n => none, []⟩ 223 false = some c223 := by kernel_rfl
theorem fid223 : c223.fid = 223 := by kernel_rfl
theorem own223 : c223.own = false := by kernel_rfl
@[irreducible] noncomputable def c232 : Ver := verD (cVer Tryz.prog id modes some ⟨fun n => none, []⟩ 232 false)
theorem ok232 : cVer Tryz.prog id modes some ⟨fun n => none, []⟩ 232 false = some c232 := by kernel_rfl
theorem fid232 : c232.fid = 232 := by kernel_rfl
theorem own232 : c232.own = false := by kernel_rfl
@[irreducible] noncomputable def c231 : Ver := verD (cVer Tryz.prog id modes some ⟨fun n => none, []⟩ 231 false)
theorem ok231 : cVer Tryz.prog id modes some ⟨fun n => none, []⟩ 231 false = some c231 := by kernel_rfl
theorem fid231 : c231.fid = 231 := by kernel_rfl
theorem own231 : c231.own = false := by kernel_rfl
@[irreducible] noncomputable def c229 : Ver := verD (cVer Tryz.prog id modes some ⟨fun n => none, []⟩ 229 false)
theorem ok229 : cVer Tryz.prog id modes some ⟨fun n => none, []⟩ 229 false = some c229 := by kernel_rfl
theorem fid229 : c229.fid = 229 := by kernel_rfl
theorem own229 : c229.own = false := by kernel_rfl
@[irreducible] noncomputable def c227 : Ver := verD (cVer Tryz.prog id modes some ⟨fun n => none, []⟩ 227 false)
theorem ok227 : cVer Tryz.prog id modes some ⟨fun n => none, []⟩ 227 false = some c227 := by kernel_rfl
theorem fid227 : c227.fid = 227 := by kernel_rfl
theorem own227 : c227.own = false := by kernel_rfl
@[irreducible] noncomputable def c225 : Ver := verD (cVer Tryz.prog id modes some ⟨fun n => none, []⟩ 225 false)
theorem ok225 : cVer Tryz.prog id modes some ⟨fun n => none, []⟩ 225 false = some c225 := by kernel_rfl
theorem fid225 : c225.fid = 225 := by kernel_rfl
theorem own225 : c225.own = false := by kernel_rfl
@[irreducible] noncomputable def c222 : Ver := verD (cVer Tryz.prog id modes some ⟨fun n => none, []⟩ 222 false)
theorem ok222 : cVer Tryz.prog id modes some ⟨fun n => none, []⟩ 222 false = some c222 := by kernel_rfl
theorem fid222 : c222.fid = 222 := by kernel_rfl
theorem own222 : c222.own = false := by kernel_rfl
@[irreducible] noncomputable def c247 : Ver := verD (cVer Tryz.prog id modes some ⟨fun n => none, []⟩ 247 false)
theorem ok247 : cVer Tryz.prog id modes some ⟨fun n => none, []⟩ 247 false = some c247 := by kernel_rfl
theorem fid247 : c247.fid = 247 := by kernel_rfl
theorem own247 : c247.own = false := by kernel_rfl
@[irreducible] noncomputable def c246 : Ver := verD (cVer Tryz.prog id modes some ⟨fun n => none, []⟩ 246 false)
theorem ok246 : cVer Tryz.prog id modes some ⟨fun n => none, []⟩ 246 false = some c246 := by kernel_rfl
theorem fid246 : c246.fid = 246 := by kernel_rfl
theorem own246 : c246.own = false := by kernel_rfl
@[irreducible] noncomputable def c221 : Ver := verD (cVer Tryz.prog id modes some ⟨fun n => none, []⟩ 221 false)
theorem ok221 : cVer Tryz.prog id modes some ⟨fun n => none, []⟩ 221 false = some c221 := by kernel_rfl
theorem fid221 : c221.fid = 221 := by kernel_rfl
theorem own221 : c221.own = false := by kernel_rfl
@[irreducible] noncomputable def c220 : Ver := verD (cVer Tryz.prog id modes some ⟨fun n => none, []⟩ 220 false)
theorem ok220 : cVer Tryz.prog id modes some ⟨fun n => none, []⟩ 220 false = some c220 := by kernel_rfl
theorem fid220 : c220.fid = 220 := by kernel_rfl
theorem own220 : c220.own = false := by kernel_rfl
@[irreducible] noncomputable def c218 : Ver := verD (cVer Tryz.prog id modes some ⟨fun n => none, []⟩ 218 false)
theorem ok218 : cVer Tryz.prog id modes some ⟨fun n => none, []⟩ 218 false = some c218 := by kernel_rfl
theorem fid218 : c218.fid = 218 := by kernel_rfl
theorem own218 : c218.own = false := by kernel_rfl
@[irreducible] noncomputable def c244 : Ver := verD (cVer Tryz.prog id modes some ⟨fun n => none, []⟩ 244 false)
theorem ok244 : cVer Tryz.prog id modes some ⟨fun n => none, []⟩ 244 false = some c244 := by kernel_rfl
theorem fid244 : c244.fid = 244 := by kernel_rfl
theorem own244 : c244.own = false := by kernel_rfl
@[irreducible] noncomputable def c217 : Ver := verD (cVer Tryz.prog id modes some ⟨fun n => none, []⟩ 217 false)
theorem ok217 : cVer Tryz.prog id modes some ⟨fun n => none, []⟩ 217 false = some c217 := by kernel_rfl
theorem fid217 : c217.fid = 217 := by kernel_rfl
theorem own217 : c217.own = false := by kernel_rfl
@[irreducible] noncomputable def c216 : Ver := verD (cVer Tryz.prog id modes some ⟨fun n => none, []⟩ 216 false)
theorem ok216 : cVer Tryz.prog id modes some ⟨fun n => none, []⟩ 216 false = some c216 := by kernel_rfl
theorem fid216 : c216.fid = 216 := by kernel_rfl
theorem own216 : c216.own = false := by kernel_rfl
@[irreducible] noncomputable def c215 : Ver := verD (cVer Tryz.prog id modes some ⟨fun n => none, []⟩ 215 false)
theorem ok215 : cVer Tryz.prog id modes some ⟨fun n => none, []⟩ 215 false = some c215 := by kernel_rfl
theorem fid215 : c215.fid = 215 := by kernel_rfl
theorem own215 : c215.own = false := by kernel_rfl
@[irreducible] noncomputable def c214 : Ver := verD (cVer Tryz.prog id modes some ⟨fun n => none, []⟩ 214 false)
theorem ok214 : cVer Tryz.prog id modes some ⟨fun n => none, []⟩ 214 false = some c214 := by kernel_rfl
theorem fid214 : c214.fid = 214 := by kernel_rfl
theorem own214 : c214.own = false := by kernel_rfl
@[irreducible] noncomputable def c213 : Ver := verD (cVer Tryz.prog id modes some ⟨fun n => none, []⟩ 213 false)
theorem ok213 : cVer Tryz.prog id modes some ⟨fun n => none, []⟩ 213 false = some c213 := by kernel_rfl
theorem fid213 : c213.fid = 213 := by kernel_rfl
theorem own213 : c213.own = false := by kernel_rfl
@[irreducible] noncomputable def c210 : Ver := verD (cVer Tryz.prog id modes some ⟨fun n => none, []⟩ 210 false)
theorem ok210 : cVer Tryz.prog id modes some ⟨fun n => none, []⟩ 210 false = some c210 := by kernel_rfl
theorem fid210 : c210.fid = 210 := by kernel_rfl
theorem own210 : c210.own = false := by kernel_rfl
@[irreducible] noncomputable def c207 : Ver := verD (cVer Tryz.prog id modes some ⟨fun n => none, []⟩ 207 false)
theorem ok207 : cVer Tryz.prog id modes some ⟨fun n => none, []⟩ 207 false = some c207 := by kernel_rfl
theorem fid207 : c207.fid = 207 := by kernel_rfl
theorem own207 : c207.own = false := by kernel_rfl
@[irreducible] noncomputable def c191 : Ver := verD (cVer Tryz.prog id modes some ⟨fun n => none, []⟩ 191 false)
noncomputable def c191_l0 : C := atD c191.code [true, true, false, true, false, false]
theorem ok191 : cVer Tryz.prog id modes some ⟨fun n => none, []⟩ 191 false = some c191 := by kernel_rfl
theorem fid191 : c191.fid = 191 := by kernel_rfl
theorem own191 : c191.own = false := by kernel_rfl
@[irreducible] noncomputable def c155 : Ver := verD (cVer Tryz.prog id modes some ⟨fun n => none, []⟩ 155 false)
noncomputable def c155_l0 : C := atD c155.code [true, true, true, false, true, false, false]
theorem ok155 : cVer Tryz.prog id modes some ⟨fun n => none, []⟩ 155 false = some c155 := by kernel_rfl
theorem fid155 : c155.fid = 155 := by kernel_rfl
theorem own155 : c155.own = false := by kernel_rfl
@[irreducible] noncomputable def c89 : Ver := verD (cVer Tryz.prog id modes some ⟨fun n => none, []⟩ 89 false)
theorem ok89 : cVer Tryz.prog id modes some ⟨fun n => none, []⟩ 89 false = some c89 := by kernel_rfl
theorem fid89 : c89.fid = 89 := by kernel_rfl
theorem own89 : c89.own = false := by kernel_rfl
@[irreducible] noncomputable def c52 : Ver := verD (cVer Tryz.prog id modes some ⟨fun n => none, []⟩ 52 false)
theorem ok52 : cVer Tryz.prog id modes some ⟨fun n => none, []⟩ 52 false = some c52 := by kernel_rfl
theorem fid52 : c52.fid = 52 := by kernel_rfl
theorem own52 : c52.own = false := by kernel_rfl
@[irreducible] noncomputable def c14 : Ver := verD (cVer Tryz.prog id modes some ⟨fun n => none, []⟩ 14 false)
noncomputable def c14_l0 : C := atD c14.code [true, true, true, true, true, false, true, false, false]
theorem ok14 : cVer Tryz.prog id modes some ⟨fun n => none, []⟩ 14 false = some c14 := by kernel_rfl
theorem fid14 : c14.fid = 14 := by kernel_rfl
theorem own14 : c14.own = false := by kernel_rfl
@[irreducible] noncomputable def c54 : Ver := verD (cVer Tryz.prog id modes some ⟨fun n => none, []⟩ 54 false)
theorem ok54 : cVer Tryz.prog id modes some ⟨fun n => none, []⟩ 54 false = some c54 := by kernel_rfl
theorem fid54 : c54.fid = 54 := by kernel_rfl
theorem own54 : c54.own = false := by kernel_rfl
@[irreducible] noncomputable def c57 : Ver := verD (cVer Tryz.prog id modes some ⟨fun n => none, []⟩ 57 false)
theorem ok57 : cVer Tryz.prog id modes some ⟨fun n => none, []⟩ 57 false = some c57 := by kernel_rfl
theorem fid57 : c57.fid = 57 := by kernel_rfl
theorem own57 : c57.own = false := by kernel_rfl
@[irreducible] noncomputable def c58 : Ver := verD (cVer Tryz.prog id modes some ⟨fun n => none, []⟩ 58 false)
noncomputable def c58_l0 : C := atD c58.code [true, true, false, true, false, false]
theorem ok58 : cVer Tryz.prog id modes some ⟨fun n => none, []⟩ 58 false = some c58 := by kernel_rfl
theorem fid58 : c58.fid = 58 := by kernel_rfl
theorem own58 : c58.own = false := by kernel_rfl
@[irreducible] noncomputable def c15 : Ver := verD (cVer Tryz.prog id modes some ⟨fun n => none, [7]⟩ 15 false)
noncomputable def c15_j0 : C := atD c15.code [true, true, true, false, false]
theorem ok15 : cVer Tryz.prog id modes some ⟨fun n => none, [7]⟩ 15 false = some c15 := by kernel_rfl
theorem fid15 : c15.fid = 15 := by kernel_rfl
theorem own15 : c15.own = false := by kernel_rfl
@[irreducible] noncomputable def c10 : Ver := verD (cVer Tryz.prog id modes some ⟨fun n => none, []⟩ 10 false)
noncomputable def c10_l0 : C := atD c10.code [true, true, true, true, true, true, false, true, false, false]
theorem ok10 : cVer Tryz.prog id modes some ⟨fun n => none, []⟩ 10 false = some c10 := by kernel_rfl
theorem fid10 : c10.fid = 10 := by kernel_rfl
theorem own10 : c10.own = false := by kernel_rfl
@[irreducible] noncomputable def c20 : Ver := verD (cVer Tryz.prog id modes some ⟨fun n => none, []⟩ 20 false)
noncomputable def c20_l0 : C := atD c20.code [true, true, false, true, false, false]
theorem ok20 : cVer Tryz.prog id modes some ⟨fun n => none, []⟩ 20 false = some c20 := by kernel_rfl
theorem fid20 : c20.fid = 20 := by kernel_rfl
theorem own20 : c20.own = false := by kernel_rfl
@[irreducible] noncomputable def c6 : Ver := verD (cVer Tryz.prog id modes some ⟨fun n => none, []⟩ 6 false)
theorem ok6 : cVer Tryz.prog id modes some ⟨fun n => none, []⟩ 6 false = some c6 := by kernel_rfl
theorem fid6 : c6.fid = 6 := by kernel_rfl
theorem own6 : c6.own = false := by kernel_rfl
@[irreducible] noncomputable def c31 : Ver := verD (cVer Tryz.prog id modes some ⟨fun n => none, []⟩ 31 false)
theorem ok31 : cVer Tryz.prog id modes some ⟨fun n => none, []⟩ 31 false = some c31 := by kernel_rfl
theorem fid31 : c31.fid = 31 := by kernel_rfl
theorem own31 : c31.own = false := by kernel_rfl
@[irreducible] noncomputable def c17 : Ver := verD (cVer Tryz.prog id modes some ⟨fun n => none, []⟩ 17 false)
theorem ok17 : cVer Tryz.prog id modes some ⟨fun n => none, []⟩ 17 false = some c17 := by kernel_rfl
theorem fid17 : c17.fid = 17 := by kernel_rfl
theorem own17 : c17.own = false := by kernel_rfl
@[irreducible] noncomputable def c32 : Ver := verD (cVer Tryz.prog id modes some ⟨fun n => none, []⟩ 32 false)
theorem ok32 : cVer Tryz.prog id modes some ⟨fun n => none, []⟩ 32 false = some c32 := by kernel_rfl
theorem fid32 : c32.fid = 32 := by kernel_rfl
theorem own32 : c32.own = false := by kernel_rfl
@[irreducible] noncomputable def c70 : Ver := verD (cVer Tryz.prog id modes some ⟨fun n => none, []⟩ 70 false)
theorem ok70 : cVer Tryz.prog id modes some ⟨fun n => none, []⟩ 70 false = some c70 := by kernel_rfl
theorem fid70 : c70.fid = 70 := by kernel_rfl
theorem own70 : c70.own = false := by kernel_rfl
@[irreducible] noncomputable def c72 : Ver := verD (cVer Tryz.prog id modes some ⟨fun n => none, []⟩ 72 false)
theorem ok72 : cVer Tryz.prog id modes some ⟨fun n => none, []⟩ 72 false = some c72 := by kernel_rfl
theorem fid72 : c72.fid = 72 := by kernel_rfl
theorem own72 : c72.own = false := by kernel_rfl
@[irreducible] noncomputable def c111 : Ver := verD (cVer Tryz.prog id modes some ⟨fun n => none, []⟩ 111 false)
theorem ok111 : cVer Tryz.prog id modes some ⟨fun n => none, []⟩ 111 false = some c111 := by kernel_rfl
theorem fid111 : c111.fid = 111 := by kernel_rfl
theorem own111 : c111.own = false := by kernel_rfl
@[irreducible] noncomputable def c74 : Ver := verD (cVer Tryz.prog id modes some ⟨fun n => none, []⟩ 74 false)
theorem ok74 : cVer Tryz.prog id modes some ⟨fun n => none, []⟩ 74 false = some c74 := by kernel_rfl
theorem fid74 : c74.fid = 74 := by kernel_rfl
theorem own74 : c74.own = false := by kernel_rfl
@[irreducible] noncomputable def c110 : Ver := verD (cVer Tryz.prog id modes some ⟨fun n => none, []⟩ 110 false)
theorem ok110 : cVer Tryz.prog id modes some ⟨fun n => none, []⟩ 110 false = some c110 := by kernel_rfl
theorem fid110 : c110.fid = 110 := by kernel_rfl
theorem own110 : c110.own = false := by kernel_rfl
@[irreducible] noncomputable def c73 : Ver := verD (cVer Tryz.prog id modes some ⟨fun n => none, []⟩ 73 false)
theorem ok73 : cVer Tryz.prog id modes some ⟨fun n => none, []⟩ 73 false = some c73 := by kernel_rfl
theorem fid73 : c73.fid = 73 := by kernel_rfl
theorem own73 : c73.own = false := by kernel_rfl
@[irreducible] noncomputable def c33 : Ver := verD (cVer Tryz.prog id modes some ⟨fun n => none, []⟩ 33 false)
theorem ok33 : cVer Tryz.prog id modes some ⟨fun n => none, []⟩ 33 false = some c33 := by kernel_rfl
theorem fid33 : c33.fid = 33 := by kernel_rfl
theorem own33 : c33.own = false := by kernel_rfl
@[irreducible] noncomputable def c35 : Ver := verD (cVer Tryz.prog id modes some ⟨fun n => none, [3]⟩ 35 false)
noncomputable def c35_j0 : C := atD c35.code [true, true, false, false]
theorem ok35 : cVer Tryz.prog id modes some ⟨fun n => none, [3]⟩ 35 false = some c35 := by kernel_rfl
theorem fid35 : c35.fid = 35 := by kernel_rfl
theorem own35 : c35.own = false := by kernel_rfl
@[irreducible] noncomputable def c16 : Ver := verD (cVer Tryz.prog id modes some ⟨fun n => none, []⟩ 16 false)
theorem ok16 : cVer Tryz.prog id modes some ⟨fun n => none, []⟩ 16 false = some c16 := by kernel_rfl
theorem fid16 : c16.fid = 16 := by kernel_rfl
theorem own16 : c16.own = false := by kernel_rfl
@[irreducible] noncomputable def c36 : Ver := verD (cVer Tryz.prog id modes some ⟨fun n => none, []⟩ 36 false)
theorem ok36 : cVer Tryz.prog id modes some ⟨fun n => none, []⟩ 36 false = some c36 := by kernel_rfl
theorem fid36 : c36.fid = 36 := by kernel_rfl
theorem own36 : c36.own = false := by kernel_rfl
@[irreducible] noncomputable def c5 : Ver := verD (cVer Tryz.prog id modes some ⟨fun n => none, []⟩ 5 false)
theorem ok5 : cVer Tryz.prog id modes some ⟨fun n => none, []⟩ 5 false = some c5 := by kernel_rfl
theorem fid5 : c5.fid = 5 := by kernel_rfl
theorem own5 : c5.own = false := by kernel_rfl
noncomputable def vers (v : Nat) : Option Ver := match v with
  | 38 => some c38
  | 47 => some c47
  | 44 => some c44
  | 43 => some c43
  | 100 => some c100
  | 114 => some c114
  | 177 => some c177
  | 86 => some c86
  | 116 => some c116
  | 85 => some c85
  | 45 => some c45
  | 112 => some c112
  | 79 => some c79
  | 81 => some c81
  | 82 => some c82
  | 113 => some c113
  | 80 => some c80
  | 37 => some c37
  | 77 => some c77
  | 78 => some c78
  | 71 => some c71
  | 75 => some c75
  | 69 => some c69
  | 76 => some c76
  | 34 => some c34
  | 83 => some c83
  | 39 => some c39
  | 40 => some c40
  | 41 => some c41
  | 9 => some c9
  | 46 => some c46
  | 93 => some c93
  | 92 => some c92
  | 190 => some c190
  | 148 => some c148
  | 53 => some c53
  | 147 => some c147
  | 94 => some c94
  | 146 => some c146
  | 145 => some c145
  | 144 => some c144
  | 143 => some c143
  | 118 => some c118
  | 122 => some c122
  | 142 => some c142
  | 141 => some c141
  | 140 => some c140
  | 139 => some c139
  | 138 => some c138
  | 134 => some c134
  | 137 => some c137
  | 136 => some c136
  | 135 => some c135
  | 133 => some c133
  | 132 => some c132
  | 131 => some c131
  | 130 => some c130
  | 90 => some c90
  | 187 => some c187
  | 183 => some c183
  | 151 => some c151
  | 182 => some c182
  | 152 => some c152
  | 212 => some c212
  | 219 => some c219
  | 184 => some c184
  | 149 => some c149
  | 188 => some c188
  | 154 => some c154
  | 189 => some c189
  | 233 => some c233
  | 230 => some c230
  | 228 => some c228
  | 226 => some c226
  | 224 => some c224
  | 245 => some c245
  | 243 => some c243
  | 209 => some c209
  | 208 => some c208
  | 186 => some c186
  | 185 => some c185
  | 129 => some c129
  | 128 => some c128
  | 123 => some c123
  | 96 => some c96
  | 127 => some c127
  | 126 => some c126
  | 125 => some c125
  | 124 => some c124
  | 121 => some c121
  | 120 => some c120
  | 119 => some c119
  | 117 => some c117
  | 88 => some c88
  | 49 => some c49
  | 50 => some c50
  | 13 => some c13
  | 95 => some c95
  | 55 => some c55
  | 97 => some c97
  | 56 => some c56
  | 51 => some c51
  | 91 => some c91
  | 150 => some c150
  | 153 => some c153
  | 235 => some c235
  | 211 => some c211
  | 234 => some c234
  | 223 => some c223
  | 232 => some c232
  | 231 => some c231
  | 229 => some c229
  | 227 => some c227
  | 225 => some c225
  | 222 => some c222
  | 247 => some c247
  | 246 => some c246
  | 221 => some c221
  | 220 => some c220
  | 218 => some c218
  | 244 => some c244
  | 217 => some c217
  | 216 => some c216
  | 215 => some c215
  | 214 => some c214
  | 213 => some c213
  | 210 => some c210
  | 207 => some c207
  | 191 => some c191
  | 155 => some c155
  | 89 => some c89
  | 52 => some c52
  | 14 => some c14
  | 54 => some c54
  | 57 => some c57
  | 58 => some c58
  | 15 => some c15
  | 10 => some c10
  | 20 => some c20
  | 6 => some c6
  | 31 => some c31
  | 17 => some c17
  | 32 => some c32
  | 70 => some c70
  | 72 => some c72
  | 111 => some c111
  | 74 => some c74
  | 110 => some c110
  | 73 => some c73
  | 33 => some c33
  | 35 => some c35
  | 16 => some c16
  | 36 => some c36
  | 5 => some c5
  | _ => none
theorem cv98 : cVer Tryz.prog id modes some ⟨fun _ => none, []⟩ 98 true = some ⟨98, 1, cloneC 1 8 [(J 0)], [.t 2], true⟩ := by kernel_rfl
set_option maxHeartbeats 400000 in
theorem ce98 (w : World) (x : Option Addr) (c : Nat) : Calls Tryz.prog 98 #[.slice x 0 c] w (CopyPost w) := by
  have he := run_eql_snil (P := Tryz.prog) (w := w) (t := 102) (el := 3) (by kernel_rfl) x 0 c
  cases x
  · go_enter Tryz.func98, Tryz.ntmps98
    go_wp2
    exact bodyPost_ret (v := .slice none 0 0) (by simp [results, Tryz.results98, go_sem]) rfl ⟨_, rfl, none, rfl, .inl rfl⟩
  · go_enter Tryz.func98, Tryz.ntmps98
    go_wp2
    exact bodyPost_ret (v := .slice (some _) 0 0) (by simp [results, Tryz.results98, go_sem]; rfl) rfl ⟨_, rfl, _, rfl, .inr ⟨_, rfl⟩⟩
def theFo : Fo := ⟨some, fun g => if g = 0 then some pow10Cells else none⟩
def ext (v : Nat) : List D → Heap → Option (List Nat × List D × Heap) := match v with
  | 98 => cloneX 1 8
  | 42 => itoaX
  | 106 => repX
  | 156 => growX 1 8
  | _ => fun _ _ => none
noncomputable def T : Tab := ⟨vers, ext⟩
theorem tabOK : TabOK Tryz.prog id modes theFo T := by
  refine ⟨fun v ver h => ?_, fun v ver f h hf => ?_, fun v f ds h r1 r2 r3 _ hf he => ?_⟩
  · change vers v = some ver at h
    unfold vers at h
    split at h
    · injection h with h; subst h; exact ⟨_, by rw [fid38, own38]; exact ok38⟩
    · injection h with h; subst h; exact ⟨_, by rw [fid47, own47]; exact ok47⟩
    · injection h with h; subst h; exact ⟨_, by rw [fid44, own44]; exact ok44⟩
    · injection h with h; subst h; exact ⟨_, by rw [fid43, own43]; exact ok43⟩
    · injection h with h; subst h; exact ⟨_, by rw [fid100, own100]; exact ok100⟩
    · injection h with h; subst h; exact ⟨_, by rw [fid114, own114]; exact ok114⟩
    · injection h with h; subst h; exact ⟨_, by rw [fid177, own177]; exact ok177⟩
    · injection h with h; subst h; exact ⟨_, by rw [fid86, own86]; exact ok86⟩
    · injection h with h; subst h; exact ⟨_, by rw [fid116, own116]; exact ok116⟩
    · injection h with h; subst h; exact ⟨_, by rw [fid85, own85]; exact ok85⟩
    · injection h with h; subst h; exact ⟨_, by rw [fid45, own45]; exact ok45⟩
    · injection h with h; subst h; exact ⟨_, by rw [fid112, own112]; exact ok112⟩
    · injection h with h; subst h; exact ⟨_, by rw [fid79, own79]; exact ok79⟩
    · injection h with h; subst h; exact ⟨_, by rw [fid81, own81]; exact ok81⟩
    · injection h with h; subst h; exact ⟨_, by rw [fid82, own82]; exact ok82⟩
    · injection h with h; subst h; exact ⟨_, by rw [fid113, own113]; exact ok113⟩
    · injection h with h; subst h; exact ⟨_, by rw [fid80, own80]; exact ok80⟩
    · injection h with h; subst h; exact ⟨_, by rw [fid37, own37]; exact ok37⟩
    · injection h with h; subst h; exact ⟨_, by rw [fid77, own77]; exact ok77⟩
    · injection h with h; subst h; exact ⟨_, by rw [fid78, own78]; exact ok78⟩
    · injection h with h; subst h; exact ⟨_, by rw [fid71, own71]; exact ok71⟩
    · injection h with h; subst h; exact ⟨_, by rw [fid75, own75]; exact ok75⟩
    · injection h with h; subst h; exact ⟨_, by rw [fid69, own69]; exact ok69⟩
    · injection h with h; subst h; exact ⟨_, by rw [fid76, own76]; exact ok76⟩
    · injection h with h; subst h; exact ⟨_, by rw [fid34, own34]; exact ok34⟩
    · injection h with h; subst h; exact ⟨_, by rw [fid83, own83]; exact ok83⟩
    · injection h with h; subst h; exact ⟨_, by rw [fid39, own39]; exact ok39⟩
    · injection h with h; subst h; exact ⟨_, by rw [fid40, own40]; exact ok40⟩
    · injection h with h; subst h; exact ⟨_, by rw [fid41, own41]; exact ok41⟩
    · injection h with h; subst h; exact ⟨_, by rw [fid9, own9]; exact ok9⟩
    · injection h with h; subst h; exact ⟨_, by rw [fid46, own46]; exact ok46⟩
    · injection h with h; subst h; exact ⟨_, by rw [fid93, own93]; exact ok93⟩
    · injection h with h; subst h; exact ⟨_, by rw [fid92, own92]; exact ok92⟩
    · injection h with h; subst h; exact ⟨_, by rw [fid190, own190]; exact ok190⟩
    · injection h with h; subst h; exact ⟨_, by rw [fid148, own148]; exact ok148⟩
    · injection h with h; subst h; exact ⟨_, by rw [fid53, own53]; exact ok53⟩
    · injection h with h; subst h; exact ⟨_, by rw [fid147, own147]; exact ok147⟩
    · injection h with h; subst h; exact ⟨_, by rw [fid94, own94]; exact ok94⟩
    · injection h with h; subst h; exact ⟨_, by rw [fid146, own146]; exact ok146⟩
    · injection h with h; subst h; exact ⟨_, by rw [fid145, own145]; exact ok145⟩
    · injection h with h; subst h; exact ⟨_, by rw [fid144, own144]; exact ok144⟩
    · injection h with h; subst h; exact ⟨_, by rw [fid143, own143]; exact ok143⟩
    · injection h with h; subst h; exact ⟨_, by rw [fid118, own118]; exact ok118⟩
    · injection h with h; subst h; exact ⟨_, by rw [fid122, own122]; exact ok122⟩
    · injection h with h; subst h; exact ⟨_, by rw [fid142, own142]; exact ok142⟩
    · injection h with h; subst h; exact ⟨_, by rw [fid141, own141]; exact ok141⟩
    · injection h with h; subst h; exact ⟨_, by rw [fid140, own140]; exact ok140⟩
    · injection h with h; subst h; exact ⟨_, by rw [fid139, own139]; exact ok139⟩
    · injection h with h; subst h; exact ⟨_, by rw [fid138, own138]; exact ok138⟩
    · injection h with h; subst h; exact ⟨_, by rw [fid134, own134]; exact ok134⟩
    · injection h with h; subst h; exact ⟨_, by rw [fid137, own137]; exact ok137⟩
    · injection h with h; subst h; exact ⟨_, by rw [fid136, own136]; exact ok136⟩
    · injection h with h; subst h; exact ⟨_, by rw [fid135, own135]; exact ok135⟩
    · injection h with h; subst h; exact ⟨_, by rw [fid133, own133]; exact ok133⟩
    · injection h with h; subst h; exact ⟨_, by rw [fid132, own132]; exact ok132⟩
    · injection h with h; subst h; exact ⟨_, by rw [fid131, own131]; exact ok131⟩
    · injection h with h; subst h; exact ⟨_, by rw [fid130, own130]; exact ok130⟩
    · injection h with h; subst h; exact ⟨_, by rw [fid90, own90]; exact ok90⟩
    · injection h with h; subst h; exact ⟨_, by rw [fid187, own187]; exact ok187⟩
    · injection h with h; subst h; exact ⟨_, by rw [fid183, own183]; exact ok183⟩
    · injection h with h; subst h; exact ⟨_, by rw [fid151, own151]; exact ok151⟩
    · injection h with h; subst h; exact ⟨_, by rw [fid182, own182]; exact ok182⟩
    · injection h with h; subst h; exact ⟨_, by rw [fid152, own152]; exact ok152⟩
    · injection h with h; subst h; exact ⟨_, by rw [fid212, own212]; exact ok212⟩
    · injection h with h; subst h; exact ⟨_, by rw [fid219, own219]; exact ok219⟩
    · injection h with h; subst h; exact ⟨_, by rw [fid184, own184]; exact ok184⟩
    · injection h with h; subst h; exact ⟨_, by rw [fid149, own149]; exact ok149⟩
    · injection h with h; subst h; exact ⟨_, by rw [fid188, own188]; exact ok188⟩
    · injection h with h; subst h; exact ⟨_, by rw [fid154, own154]; exact ok154⟩
    · injection h with h; subst h; exact ⟨_, by rw [fid189, own189]; exact ok189⟩
    · injection h with h; subst h; exact ⟨_, by rw [fid233, own233]; exact ok233⟩
    · injection h with h; subst h; exact ⟨_, by rw [fid230, own230]; exact ok230⟩
    · injection h with h; subst h; exact ⟨_, by rw [fid228, own228]; exact ok228⟩
    · injection h with h; subst h; exact ⟨_, by rw [fid226, own226]; exact ok226⟩
    · injection h with h; subst h; exact ⟨_, by rw [fid224, own224]; exact ok224⟩
    · injection h with h; subst h; exact ⟨_, by rw [fid245, own245]; exact ok245⟩
    · injection h with h; subst h; exact ⟨_, by rw [fid243, own243]; exact ok243⟩
    · injection h with h; subst h; exact ⟨_, by rw [fid209, own209]; exact ok209⟩
    · injection h with h; subst h; exact ⟨_, by rw [fid208, own208]; exact ok208⟩
    · injection h with h; subst h; exact ⟨_, by rw [fid186, own186]; exact ok186⟩
    · injection h with h; subst h; exact ⟨_, by rw [fid185, own185]; exact ok185⟩
    · injection h with h; subst h; exact ⟨_, by rw [fid129, own129]; exact ok129⟩
    · injection h with h; subst h; exact ⟨_, by rw [fid128, own128]; exact ok128⟩
    · injection h with h; subst h; exact ⟨_, by rw [fid123, own123]; exact ok123⟩
    · injection h with h; subst h; exact ⟨_, by rw [fid96, own96]; exact ok96⟩
    · injection h with h; subst h; exact ⟨_, by rw [fid127, own127]; exact ok127⟩
    · injection h with h; subst h; exact ⟨_, by rw [fid126, own126]; exact ok126⟩
    · injection h with h; subst h; exact ⟨_, by rw [fid125, own125]; exact ok125⟩
    · injection h with h; subst h; exact ⟨_, by rw [fid124, own124]; exact ok124⟩
    · injection h with h; subst h; exact ⟨_, by rw [fid121, own121]; exact ok121⟩
    · injection h with h; subst h; exact ⟨_, by rw [fid120, own120]; exact ok120⟩
    · injection h with h; subst h; exact ⟨_, by rw [fid119, own119]; exact ok119⟩
    · injection h with h; subst h; exact ⟨_, by rw [fid117, own117]; exact ok117⟩
    · injection h with h; subst h; exact ⟨_, by rw [fid88, own88]; exact ok88⟩
    · injection h with h; subst h; exact ⟨_, by rw [fid49, own49]; exact ok49⟩
    · injection h with h; subst h; exact ⟨_, by rw [fid50, own50]; exact ok50⟩
    · injection h with h; subst h; exact ⟨_, by rw [fid13, own13]; exact ok13⟩
    · injection h with h; subst h; exact ⟨_, by rw [fid95, own95]; exact ok95⟩
    · injection h with h; subst h; exact ⟨_, by rw [fid55, own55]; exact ok55⟩
    · injection h with h; subst h; exact ⟨_, by rw [fid97, own97]; exact ok97⟩
    · injection h with h; subst h; exact ⟨_, by rw [fid56, own56]; exact ok56⟩
    · injection h with h; subst h; exact ⟨_, by rw [fid51, own51]; exact ok51⟩
    · injection h with h; subst h; exact ⟨_, by rw [fid91, own91]; exact ok91⟩
    · injection h with h; subst h; exact ⟨_, by rw [fid150, own150]; exact ok150⟩
    · injection h with h; subst h; exact ⟨_, by rw [fid153, own153]; exact ok153⟩
    · injection h with h; subst h; exact ⟨_, by rw [fid235, own235]; exact ok235⟩
    · injection h with h; subst h; exact ⟨_, by rw [fid211, own211]; exact ok211⟩
    · injection h with h; subst h; exact ⟨_, by rw [fid234, own234]; exact ok234⟩
    · injection h with h; subst h; exact ⟨_, by rw [fid223, own223]; exact ok223⟩
    · injection h with h; subst h; exact ⟨_, by rw [fid232, own232]; exact ok232⟩
    · injection h with h; subst h; exact ⟨_, by rw [fid231, own231]; exact ok231⟩
    · injection h with h; subst h; exact ⟨_, by rw [fid229, own229]; exact ok229⟩
    · injection h with h; subst h; exact ⟨_, by rw [fid227, own227]; exact ok227⟩
    · injection h with h; subst h; exact ⟨_, by rw [fid225, own225]; exact ok225⟩
    · injection h with h; subst h; exact ⟨_, by rw [fid222, own222]; exact ok222⟩
    · injection h with h; subst h; exact ⟨_, by rw [fid247, own247]; exact ok247⟩
    · injection h with h; subst h; exact ⟨_, by rw [fid246, own246]; exact ok246⟩
    · injection h with h; subst h; exact ⟨_, by rw [fid221, own221]; exact ok221⟩
    · injection h with h; subst h; exact ⟨_, by rw [fid220, own220]; exact ok220⟩
    · injection h with h; subst h; exact ⟨_, by rw [fid218, own218]; exact ok218⟩
    · injection h with h; subst h; exact ⟨_, by rw [fid244, own244]; exact ok244⟩
    · injection h with h; subst h; exact ⟨_, by rw [fid217, own217]; exact ok217⟩
    · injection h with h; subst h; exact ⟨_, by rw [fid216, own216]; exact ok216⟩
    · injection h with h; subst h; exact ⟨_, by rw [fid215, own215]; exact ok215⟩
    · injection h with h; subst h; exact ⟨_, by rw [fid214, own214]; exact ok214⟩
    · injection h with h; subst h; exact ⟨_, by rw [fid213, own213]; exact ok213⟩
    · injection h with h; subst h; exact ⟨_, by rw [fid210, own210]; exact ok210⟩
    · injection h with h; subst h; exact ⟨_, by rw [fid207, own207]; exact ok207⟩
    · injection h with h; subst h; exact ⟨_, by rw [fid191, own191]; exact ok191⟩
    · injection h with h; subst h; exact ⟨_, by rw [fid155, own155]; exact ok155⟩
    · injection h with h; subst h; exact ⟨_, by rw [fid89, own89]; exact ok89⟩
    · injection h with h; subst h; exact ⟨_, by rw [fid52, own52]; exact ok52⟩
    · injection h with h; subst h; exact ⟨_, by rw [fid14, own14]; exact ok14⟩
    · injection h with h; subst h; exact ⟨_, by rw [fid54, own54]; exact ok54⟩
    · injection h with h; subst h; exact ⟨_, by rw [fid57, own57]; exact ok57⟩
    · injection h with h; subst h; exact ⟨_, by rw [fid58, own58]; exact ok58⟩
    · injection h with h; subst h; exact ⟨_, by rw [fid15, own15]; exact ok15⟩
    · injection h with h; subst h; exact ⟨_, by rw [fid10, own10]; exact ok10⟩
    · injection h with h; subst h; exact ⟨_, by rw [fid20, own20]; exact ok20⟩
    · injection h with h; subst h; exact ⟨_, by rw [fid6, own6]; exact ok6⟩
    · injection h with h; subst h; exact ⟨_, by rw [fid31, own31]; exact ok31⟩
    · injection h with h; subst h; exact ⟨_, by rw [fid17, own17]; exact ok17⟩
    · injection h with h; subst h; exact ⟨_, by rw [fid32, own32]; exact ok32⟩
    · injection h with h; subst h; exact ⟨_, by rw [fid70, own70]; exact ok70⟩
    · injection h with h; subst h; exact ⟨_, by rw [fid72, own72]; exact ok72⟩
    · injection h with h; subst h; exact ⟨_, by rw [fid111, own111]; exact ok111⟩
    · injection h with h; subst h; exact ⟨_, by rw [fid74, own74]; exact ok74⟩
    · injection h with h; subst h; exact ⟨_, by rw [fid110, own110]; exact ok110⟩
    · injection h with h; subst h; exact ⟨_, by rw [fid73, own73]; exact ok73⟩
    · injection h with h; subst h; exact ⟨_, by rw [fid33, own33]; exact ok33⟩
    · injection h with h; subst h; exact ⟨_, by rw [fid35, own35]; exact ok35⟩
    · injection h with h; subst h; exact ⟨_, by rw [fid16, own16]; exact ok16⟩
    · injection h with h; subst h; exact ⟨_, by rw [fid36, own36]; exact ok36⟩
    · injection h with h; subst h; exact ⟨_, by rw [fid5, own5]; exact ok5⟩
    · cases h
  · change vers v = some ver at h
    injection hf with hf
    unfold vers at h
    split at h
    · injection h with h; subst h; subst hf; exact fid38
    · injection h with h; subst h; subst hf; exact fid47
    · injection h with h; subst h; subst hf; exact fid44
    · injection h with h; subst h; subst hf; exact fid43
    · injection h with h; subst h; subst hf; exact fid100
    · injection h with h; subst h; subst hf; exact fid114
    · injection h with h; subst h; subst hf; exact fid177
    · injection h with h; subst h; subst hf; exact fid86
    · injection h with h; subst h; subst hf; exact fid116
    · injection h with h; subst h; subst hf; exact fid85
    · injection h with h; subst h; subst hf; exact fid45
    · injection h with h; subst h; subst hf; exact fid112
    · injection h with h; subst h; subst hf; exact fid79
    · injection h with h; subst h; subst hf; exact fid81
    · injection h with h; subst h; subst hf; exact fid82
    · injection h with h; subst h; subst hf; exact fid113
    · injection h with h; subst h; subst hf; exact fid80
    · injection h with h; subst h; subst hf; exact fid37
    · injection h with h; subst h; subst hf; exact fid77
    · injection h with h; subst h; subst hf; exact fid78
    · injection h with h; subst h; subst hf; exact fid71
    · injection h with h; subst h; subst hf; exact fid75
    · injection h with h; subst h; subst hf; exact fid69
    · injection h with h; subst h; subst hf; exact fid76
    · injection h with h; subst h; subst hf; exact fid34
    · injection h with h; subst h; subst hf; exact fid83
    · injection h with h; subst h; subst hf; exact fid39
    · injection h with h; subst h; subst hf; exact fid40
    · injection h with h; subst h; subst hf; exact fid41
    · injection h with h; subst h; subst hf; exact fid9
    · injection h with h; subst h; subst hf; exact fid46
    · injection h with h; subst h; subst hf; exact fid93
    · injection h with h; subst h; subst hf; exact fid92
    · injection h with h; subst h; subst hf; exact fid190
    · injection h with h; subst h; subst hf; exact fid148
    · injection h with h; subst h; subst hf; exact fid53
    · injection h with h; subst h; subst hf; exact fid147
    · injection h with h; subst h; subst hf; exact fid94
    · injection h with h; subst h; subst hf; exact fid146
    · injection h with h; subst h; subst hf; exact fid145
    · injection h with h; subst h; subst hf; exact fid144
    · injection h with h; subst h; subst hf; exact fid143
    · injection h with h; subst h; subst hf; exact fid118
    · injection h with h; subst h; subst hf; exact fid122
    · injection h with h; subst h; subst hf; exact fid142
    · injection h with h; subst h; subst hf; exact fid141
    · injection h with h; subst h; subst hf; exact fid140
    · injection h with h; subst h; subst hf; exact fid139
    · injection h with h; subst h; subst hf; exact fid138
    · injection h with h; subst h; subst hf; exact fid134
    · injection h with h; subst h; subst hf; exact fid137
    · injection h with h; subst h; subst hf; exact fid136
    · injection h with h; subst h; subst hf; exact fid135
    · injection h with h; subst h; subst hf; exact fid133
    · injection h with h; subst h; subst hf; exact fid132
    · injection h with h; subst h; subst hf; exact fid131
    · injection h with h; subst h; subst hf; exact fid130
    · injection h with h; subst h; subst hf; exact fid90
    · injection h with h; subst h; subst hf; exact fid187
    · injection h with h; subst h; subst hf; exact fid183
    · injection h with h; subst h; subst hf; exact fid151
    · injection h with h; subst h; subst hf; exact fid182
    · injection h with h; subst h; subst hf; exact fid152
    · injection h with h; subst h; subst hf; exact fid212
    · injection h with h; subst h; subst hf; exact fid219
    · injection h with h; subst h; subst hf; exact fid184
    · injection h with h; subst h; subst hf; exact fid149
    · injection h with h; subst h; subst hf; exact fid188
    · injection h with h; subst h; subst hf; exact fid154
    · injection h with h; subst h; subst hf; exact fid189
    · injection h with h; subst h; subst hf; exact fid233
    · injection h with h; subst h; subst hf; exact fid230
    · injection h with h; subst h; subst hf; exact fid228
    · injection h with h; subst h; subst hf; exact fid226
    · injection h with h; subst h; subst hf; exact fid224
    · injection h with h; subst h; subst hf; exact fid245
    · injection h with h; subst h; subst hf; exact fid243
    · injection h with h; subst h; subst hf; exact fid209
    · injection h with h; subst h; subst hf; exact fid208
    · injection h with h; subst h; subst hf; exact fid186
    · injection h with h; subst h; subst hf; exact fid185
    · injection h with h; subst h; subst hf; exact fid129
    · injection h with h; subst h; subst hf; exact fid128
    · injection h with h; subst h; subst hf; exact fid123
    · injection h with h; subst h; subst hf; exact fid96
    · injection h with h; subst h; subst hf; exact fid127
    · injection h with h; subst h; subst hf; exact fid126
    · injection h with h; subst h; subst hf; exact fid125
    · injection h with h; subst h; subst hf; exact fid124
    · injection h with h; subst h; subst hf; exact fid121
    · injection h with h; subst h; subst hf; exact fid120
    · injection h with h; subst h; subst hf; exact fid119
    · injection h with h; subst h; subst hf; exact fid117
    · injection h with h; subst h; subst hf; exact fid88
    · injection h with h; subst h; subst hf; exact fid49
    · injection h with h; subst h; subst hf; exact fid50
    · injection h with h; subst h; subst hf; exact fid13
    · injection h with h; subst h; subst hf; exact fid95
    · injection h with h; subst h; subst hf; exact fid55
    · injection h with h; subst h; subst hf; exact fid97
    · injection h with h; subst h; subst hf; exact fid56
    · injection h with h; subst h; subst hf; exact fid51
    · injection h with h; subst h; subst hf; exact fid91
    · injection h with h; subst h; subst hf; exact fid150
    · injection h with h; subst h; subst hf; exact fid153
    · injection h with h; subst h; subst hf; exact fid235
    · injection h with h; subst h; subst hf; exact fid211
    · injection h with h; subst h; subst hf; exact fid234
    · injection h with h; subst h; subst hf; exact fid223
    · injection h with h; subst h; subst hf; exact fid232
    · injection h with h; subst h; subst hf; exact fid231
    · injection h with h; subst h; subst hf; exact fid229
    · injection h with h; subst h; subst hf; exact fid227
    · injection h with h; subst h; subst hf; exact fid225
    · injection h with h; subst h; subst hf; exact fid222
    · injection h with h; subst h; subst hf; exact fid247
    · injection h with h; subst h; subst hf; exact fid246
    · injection h with h; subst h; subst hf; exact fid221
    · injection h with h; subst h; subst hf; exact fid220
    · injection h with h; subst h; subst hf; exact fid218
    · injection h with h; subst h; subst hf; exact fid244
    · injection h with h; subst h; subst hf; exact fid217
    · injection h with h; subst h; subst hf; exact fid216
    · injection h with h; subst h; subst hf; exact fid215
    · injection h with h; subst h; subst hf; exact fid214
    · injection h with h; subst h; subst hf; exact fid213
    · injection h with h; subst h; subst hf; exact fid210
    · injection h with h; subst h; subst hf; exact fid207
    · injection h with h; subst h; subst hf; exact fid191
    · injection h with h; subst h; subst hf; exact fid155
    · injection h with h; subst h; subst hf; exact fid89
    · injection h with h; subst h; subst hf; exact fid52
    · injection h with h; subst h; subst hf; exact fid14
    · injection h with h; subst h; subst hf; exact fid54
    · injection h with h; subst h; subst hf; exact fid57
    · injection h with h; subst h; subst hf; exact fid58
    · injection h with h; subst h; subst hf; exact fid15
    · injection h with h; subst h; subst hf; exact fid10
    · injection h with h; subst h; subst hf; exact fid20
    · injection h with h; subst h; subst hf; exact fid6
    · injection h with h; subst h; subst hf; exact fid31
    · injection h with h; subst h; subst hf; exact fid17
    · injection h with h; subst h; subst hf; exact fid32
    · injection h with h; subst h; subst hf; exact fid70
    · injection h with h; subst h; subst hf; exact fid72
    · injection h with h; subst h; subst hf; exact fid111
    · injection h with h; subst h; subst hf; exact fid74
    · injection h with h; subst h; subst hf; exact fid110
    · injection h with h; subst h; subst hf; exact fid73
    · injection h with h; subst h; subst hf; exact fid33
    · injection h with h; subst h; subst hf; exact fid35
    · injection h with h; subst h; subst hf; exact fid16
    · injection h with h; subst h; subst hf; exact fid36
    · injection h with h; subst h; subst hf; exact fid5
    · cases h
  · change ext v ds h = some (r1, r2, r3) at he
    injection hf with hf; subst hf
    unfold ext at he
    split at he
    · obtain ⟨sz, xs, rfl, rfl, rfl, hr, rfl, rfl, rfl⟩ := cloneX_inv he
      exact ⟨rfl, fun φ Im w args hs hrep => clone_ok (fun _ => rfl) (by kernel_rfl) cv98 (fun w x c => lands_calls (by kernel_rfl) Tryz.func98 (by kernel_rfl) (ce98 w x c)) hr hs hrep⟩
    · exact ⟨itoaX_deep he, fun φ Im w args hs hrep => itoa_ok (G := 0) (by kernel_rfl) Tryz.func42 (by kernel_rfl) (fun n w h0 h1 ht => Tryz.strconv_Itoa n h0 h1 w ht) (by kernel_rfl) (by rfl) he hs hrep⟩
    · exact ⟨repX_deep he, fun φ Im w args hs hrep => rep_ok (by kernel_rfl) Tryz.func106 (by kernel_rfl) (fun s c w h0 h1 => Tryz.strings_Repeat s c w h0 h1) he hs hrep⟩
    · exact ⟨growX_deep he, fun φ Im w args hs hrep => grow_ok Tryz.growL156 (by kernel_rfl) (by kernel_rfl) Tryz.func156 (by kernel_rfl) (t := 3) (by kernel_rfl) (by kernel_rfl) (by decide) he hs hrep⟩
    · cases he
theorem callsOK : CallsOK Tryz.prog theFo (runF T) := runF_ok (fun _ => rfl) tabOK (by kernel_rfl)
end Am
end Go.Proofs.YtfdmmnfjdifccaaGreatDoor

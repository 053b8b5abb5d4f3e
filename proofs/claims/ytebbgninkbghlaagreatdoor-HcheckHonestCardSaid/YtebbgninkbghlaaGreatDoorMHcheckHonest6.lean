/-
  Facts on the seat's types, written by wip/mk.py: how many cells and bytes a type has. Conditions: none.
-/
import Derived.Test.YtebbgninkbghlaaGreatDoorMHcheckHonest5
import Derived.Test.YtebbgninkbghlaaGreatDoorRows
/-! Ty -/
namespace Go.Proofs.YtebbgninkbghlaaGreatDoor
open Go
theorem c0 : Tryz.prog.cellsOf 0 = 1 := by kernel_rfl
theorem by0 : Tryz.prog.bytesOf 0 = 0 := by kernel_rfl
theorem c1 : Tryz.prog.cellsOf 1 = 1 := by kernel_rfl
theorem by1 : Tryz.prog.bytesOf 1 = 8 := by kernel_rfl
theorem c2 : Tryz.prog.cellsOf 2 = 1 := by kernel_rfl
theorem by2 : Tryz.prog.bytesOf 2 = 8 := by kernel_rfl
theorem c3 : Tryz.prog.cellsOf 3 = 1 := by kernel_rfl
theorem by3 : Tryz.prog.bytesOf 3 = 8 := by kernel_rfl
theorem c4 : Tryz.prog.cellsOf 4 = 1 := by kernel_rfl
theorem by4 : Tryz.prog.bytesOf 4 = 1 := by kernel_rfl
theorem c5 : Tryz.prog.cellsOf 5 = 1 := by kernel_rfl
theorem by5 : Tryz.prog.bytesOf 5 = 1 := by kernel_rfl
theorem c6 : Tryz.prog.cellsOf 6 = 1 := by kernel_rfl
theorem by6 : Tryz.prog.bytesOf 6 = 1 := by kernel_rfl
theorem c7 : Tryz.prog.cellsOf 7 = 4 := by kernel_rfl
theorem by7 : Tryz.prog.bytesOf 7 = 24 := by kernel_rfl
theorem c8 : Tryz.prog.cellsOf 8 = 4 := by kernel_rfl
theorem by8 : Tryz.prog.bytesOf 8 = 24 := by kernel_rfl
theorem c9 : Tryz.prog.cellsOf 9 = 1 := by kernel_rfl
theorem by9 : Tryz.prog.bytesOf 9 = 16 := by kernel_rfl
theorem c10 : Tryz.prog.cellsOf 10 = 1 := by kernel_rfl
theorem by10 : Tryz.prog.bytesOf 10 = 16 := by kernel_rfl
theorem c11 : Tryz.prog.cellsOf 11 = 1 := by kernel_rfl
theorem by11 : Tryz.prog.bytesOf 11 = 16 := by kernel_rfl
theorem c12 : Tryz.prog.cellsOf 12 = 1 := by kernel_rfl
theorem by12 : Tryz.prog.bytesOf 12 = 8 := by kernel_rfl
theorem c13 : Tryz.prog.cellsOf 13 = 2 := by kernel_rfl
theorem by13 : Tryz.prog.bytesOf 13 = 24 := by kernel_rfl
theorem c14 : Tryz.prog.cellsOf 14 = 2 := by kernel_rfl
theorem by14 : Tryz.prog.bytesOf 14 = 24 := by kernel_rfl
theorem c15 : Tryz.prog.cellsOf 15 = 1 := by kernel_rfl
theorem by15 : Tryz.prog.bytesOf 15 = 8 := by kernel_rfl
theorem c16 : Tryz.prog.cellsOf 16 = 1 := by kernel_rfl
theorem by16 : Tryz.prog.bytesOf 16 = 8 := by kernel_rfl
theorem c17 : Tryz.prog.cellsOf 17 = 1 := by kernel_rfl
theorem by17 : Tryz.prog.bytesOf 17 = 8 := by kernel_rfl
theorem c18 : Tryz.prog.cellsOf 18 = 1 := by kernel_rfl
theorem by18 : Tryz.prog.bytesOf 18 = 8 := by kernel_rfl
theorem c19 : Tryz.prog.cellsOf 19 = 1 := by kernel_rfl
theorem by19 : Tryz.prog.bytesOf 19 = 8 := by kernel_rfl
theorem c20 : Tryz.prog.cellsOf 20 = 1 := by kernel_rfl
theorem by20 : Tryz.prog.bytesOf 20 = 16 := by kernel_rfl
theorem c21 : Tryz.prog.cellsOf 21 = 1 := by kernel_rfl
theorem by21 : Tryz.prog.bytesOf 21 = 4 := by kernel_rfl
theorem c22 : Tryz.prog.cellsOf 22 = 1 := by kernel_rfl
theorem by22 : Tryz.prog.bytesOf 22 = 24 := by kernel_rfl
theorem c23 : Tryz.prog.cellsOf 23 = 1 := by kernel_rfl
theorem by23 : Tryz.prog.bytesOf 23 = 24 := by kernel_rfl
theorem c24 : Tryz.prog.cellsOf 24 = 1 := by kernel_rfl
theorem by24 : Tryz.prog.bytesOf 24 = 24 := by kernel_rfl
theorem c25 : Tryz.prog.cellsOf 25 = 2 := by kernel_rfl
theorem by25 : Tryz.prog.bytesOf 25 = 48 := by kernel_rfl
theorem c26 : Tryz.prog.cellsOf 26 = 2 := by kernel_rfl
theorem by26 : Tryz.prog.bytesOf 26 = 48 := by kernel_rfl
theorem c27 : Tryz.prog.cellsOf 27 = 32 := by kernel_rfl
theorem by27 : Tryz.prog.bytesOf 27 = 32 := by kernel_rfl
theorem c28 : Tryz.prog.cellsOf 28 = 32 := by kernel_rfl
theorem by28 : Tryz.prog.bytesOf 28 = 32 := by kernel_rfl
theorem c29 : Tryz.prog.cellsOf 29 = 36 := by kernel_rfl
theorem by29 : Tryz.prog.bytesOf 29 = 112 := by kernel_rfl
theorem c30 : Tryz.prog.cellsOf 30 = 36 := by kernel_rfl
theorem by30 : Tryz.prog.bytesOf 30 = 112 := by kernel_rfl
theorem c31 : Tryz.prog.cellsOf 31 = 1 := by kernel_rfl
theorem by31 : Tryz.prog.bytesOf 31 = 8 := by kernel_rfl
theorem c32 : Tryz.prog.cellsOf 32 = 1 := by kernel_rfl
theorem by32 : Tryz.prog.bytesOf 32 = 0 := by kernel_rfl
theorem c33 : Tryz.prog.cellsOf 33 = 1 := by kernel_rfl
theorem by33 : Tryz.prog.bytesOf 33 = 8 := by kernel_rfl
theorem c34 : Tryz.prog.cellsOf 34 = 1 := by kernel_rfl
theorem by34 : Tryz.prog.bytesOf 34 = 0 := by kernel_rfl
theorem c35 : Tryz.prog.cellsOf 35 = 1 := by kernel_rfl
theorem by35 : Tryz.prog.bytesOf 35 = 8 := by kernel_rfl
theorem c36 : Tryz.prog.cellsOf 36 = 1 := by kernel_rfl
theorem by36 : Tryz.prog.bytesOf 36 = 24 := by kernel_rfl
theorem c37 : Tryz.prog.cellsOf 37 = 1 := by kernel_rfl
theorem by37 : Tryz.prog.bytesOf 37 = 0 := by kernel_rfl
theorem c38 : Tryz.prog.cellsOf 38 = 1 := by kernel_rfl
theorem by38 : Tryz.prog.bytesOf 38 = 8 := by kernel_rfl
theorem c39 : Tryz.prog.cellsOf 39 = 1 := by kernel_rfl
theorem by39 : Tryz.prog.bytesOf 39 = 8 := by kernel_rfl
theorem c40 : Tryz.prog.cellsOf 40 = 1 := by kernel_rfl
theorem by40 : Tryz.prog.bytesOf 40 = 0 := by kernel_rfl
theorem c41 : Tryz.prog.cellsOf 41 = 1 := by kernel_rfl
theorem by41 : Tryz.prog.bytesOf 41 = 8 := by kernel_rfl
theorem c42 : Tryz.prog.cellsOf 42 = 1 := by kernel_rfl
theorem by42 : Tryz.prog.bytesOf 42 = 0 := by kernel_rfl
theorem c43 : Tryz.prog.cellsOf 43 = 1 := by kernel_rfl
theorem by43 : Tryz.prog.bytesOf 43 = 8 := by kernel_rfl
theorem c44 : Tryz.prog.cellsOf 44 = 1 := by kernel_rfl
theorem by44 : Tryz.prog.bytesOf 44 = 8 := by kernel_rfl
theorem c45 : Tryz.prog.cellsOf 45 = 1 := by kernel_rfl
theorem by45 : Tryz.prog.bytesOf 45 = 8 := by kernel_rfl
theorem c46 : Tryz.prog.cellsOf 46 = 2 := by kernel_rfl
theorem by46 : Tryz.prog.bytesOf 46 = 48 := by kernel_rfl
theorem c47 : Tryz.prog.cellsOf 47 = 2 := by kernel_rfl
theorem by47 : Tryz.prog.bytesOf 47 = 48 := by kernel_rfl
theorem c48 : Tryz.prog.cellsOf 48 = 1 := by kernel_rfl
theorem by48 : Tryz.prog.bytesOf 48 = 2 := by kernel_rfl
theorem c49 : Tryz.prog.cellsOf 49 = 1 := by kernel_rfl
theorem by49 : Tryz.prog.bytesOf 49 = 24 := by kernel_rfl
theorem c50 : Tryz.prog.cellsOf 50 = 2 := by kernel_rfl
theorem by50 : Tryz.prog.bytesOf 50 = 32 := by kernel_rfl
theorem c51 : Tryz.prog.cellsOf 51 = 2 := by kernel_rfl
theorem by51 : Tryz.prog.bytesOf 51 = 32 := by kernel_rfl
theorem c52 : Tryz.prog.cellsOf 52 = 1 := by kernel_rfl
theorem by52 : Tryz.prog.bytesOf 52 = 8 := by kernel_rfl
theorem c53 : Tryz.prog.cellsOf 53 = 1 := by kernel_rfl
theorem by53 : Tryz.prog.bytesOf 53 = 8 := by kernel_rfl
theorem c54 : Tryz.prog.cellsOf 54 = 1 := by kernel_rfl
theorem by54 : Tryz.prog.bytesOf 54 = 8 := by kernel_rfl
theorem c55 : Tryz.prog.cellsOf 55 = 1 := by kernel_rfl
theorem by55 : Tryz.prog.bytesOf 55 = 8 := by kernel_rfl
theorem c56 : Tryz.prog.cellsOf 56 = 1 := by kernel_rfl
theorem by56 : Tryz.prog.bytesOf 56 = 24 := by kernel_rfl
theorem c57 : Tryz.prog.cellsOf 57 = 1 := by kernel_rfl
theorem by57 : Tryz.prog.bytesOf 57 = 0 := by kernel_rfl
theorem c58 : Tryz.prog.cellsOf 58 = 1 := by kernel_rfl
theorem by58 : Tryz.prog.bytesOf 58 = 8 := by kernel_rfl
theorem c59 : Tryz.prog.cellsOf 59 = 1 := by kernel_rfl
theorem by59 : Tryz.prog.bytesOf 59 = 8 := by kernel_rfl
theorem c60 : Tryz.prog.cellsOf 60 = 1 := by kernel_rfl
theorem by60 : Tryz.prog.bytesOf 60 = 0 := by kernel_rfl
theorem c61 : Tryz.prog.cellsOf 61 = 1 := by kernel_rfl
theorem by61 : Tryz.prog.bytesOf 61 = 8 := by kernel_rfl
theorem c62 : Tryz.prog.cellsOf 62 = 1 := by kernel_rfl
theorem by62 : Tryz.prog.bytesOf 62 = 0 := by kernel_rfl
theorem c63 : Tryz.prog.cellsOf 63 = 1 := by kernel_rfl
theorem by63 : Tryz.prog.bytesOf 63 = 8 := by kernel_rfl
theorem c64 : Tryz.prog.cellsOf 64 = 1 := by kernel_rfl
theorem by64 : Tryz.prog.bytesOf 64 = 8 := by kernel_rfl
theorem c65 : Tryz.prog.cellsOf 65 = 1 := by kernel_rfl
theorem by65 : Tryz.prog.bytesOf 65 = 8 := by kernel_rfl
theorem c66 : Tryz.prog.cellsOf 66 = 1 := by kernel_rfl
theorem by66 : Tryz.prog.bytesOf 66 = 0 := by kernel_rfl
theorem c67 : Tryz.prog.cellsOf 67 = 1 := by kernel_rfl
theorem by67 : Tryz.prog.bytesOf 67 = 8 := by kernel_rfl
theorem c68 : Tryz.prog.cellsOf 68 = 1 := by kernel_rfl
theorem by68 : Tryz.prog.bytesOf 68 = 8 := by kernel_rfl
theorem c69 : Tryz.prog.cellsOf 69 = 1 := by kernel_rfl
theorem by69 : Tryz.prog.bytesOf 69 = 8 := by kernel_rfl
theorem c70 : Tryz.prog.cellsOf 70 = 1 := by kernel_rfl
theorem by70 : Tryz.prog.bytesOf 70 = 8 := by kernel_rfl
theorem c71 : Tryz.prog.cellsOf 71 = 1 := by kernel_rfl
theorem by71 : Tryz.prog.bytesOf 71 = 8 := by kernel_rfl
theorem c72 : Tryz.prog.cellsOf 72 = 1 := by kernel_rfl
theorem by72 : Tryz.prog.bytesOf 72 = 8 := by kernel_rfl
theorem c73 : Tryz.prog.cellsOf 73 = 1 := by kernel_rfl
theorem by73 : Tryz.prog.bytesOf 73 = 8 := by kernel_rfl
theorem c74 : Tryz.prog.cellsOf 74 = 1 := by kernel_rfl
theorem by74 : Tryz.prog.bytesOf 74 = 0 := by kernel_rfl
theorem c75 : Tryz.prog.cellsOf 75 = 1 := by kernel_rfl
theorem by75 : Tryz.prog.bytesOf 75 = 8 := by kernel_rfl
theorem c76 : Tryz.prog.cellsOf 76 = 1 := by kernel_rfl
theorem by76 : Tryz.prog.bytesOf 76 = 8 := by kernel_rfl
theorem c77 : Tryz.prog.cellsOf 77 = 1 := by kernel_rfl
theorem by77 : Tryz.prog.bytesOf 77 = 8 := by kernel_rfl
theorem c78 : Tryz.prog.cellsOf 78 = 1 := by kernel_rfl
theorem by78 : Tryz.prog.bytesOf 78 = 0 := by kernel_rfl
theorem c79 : Tryz.prog.cellsOf 79 = 1 := by kernel_rfl
theorem by79 : Tryz.prog.bytesOf 79 = 8 := by kernel_rfl
theorem c80 : Tryz.prog.cellsOf 80 = 1 := by kernel_rfl
theorem by80 : Tryz.prog.bytesOf 80 = 8 := by kernel_rfl
theorem c81 : Tryz.prog.cellsOf 81 = 1 := by kernel_rfl
theorem by81 : Tryz.prog.bytesOf 81 = 8 := by kernel_rfl
theorem c82 : Tryz.prog.cellsOf 82 = 1 := by kernel_rfl
theorem by82 : Tryz.prog.bytesOf 82 = 8 := by kernel_rfl
theorem c83 : Tryz.prog.cellsOf 83 = 1 := by kernel_rfl
theorem by83 : Tryz.prog.bytesOf 83 = 0 := by kernel_rfl
theorem c84 : Tryz.prog.cellsOf 84 = 1 := by kernel_rfl
theorem by84 : Tryz.prog.bytesOf 84 = 8 := by kernel_rfl
theorem c85 : Tryz.prog.cellsOf 85 = 1 := by kernel_rfl
theorem by85 : Tryz.prog.bytesOf 85 = 8 := by kernel_rfl
theorem c86 : Tryz.prog.cellsOf 86 = 1 := by kernel_rfl
theorem by86 : Tryz.prog.bytesOf 86 = 8 := by kernel_rfl
theorem c87 : Tryz.prog.cellsOf 87 = 1 := by kernel_rfl
theorem by87 : Tryz.prog.bytesOf 87 = 8 := by kernel_rfl
theorem c88 : Tryz.prog.cellsOf 88 = 1 := by kernel_rfl
theorem by88 : Tryz.prog.bytesOf 88 = 24 := by kernel_rfl
theorem c89 : Tryz.prog.cellsOf 89 = 1 := by kernel_rfl
theorem by89 : Tryz.prog.bytesOf 89 = 8 := by kernel_rfl
theorem c90 : Tryz.prog.cellsOf 90 = 1 := by kernel_rfl
theorem by90 : Tryz.prog.bytesOf 90 = 8 := by kernel_rfl
theorem c91 : Tryz.prog.cellsOf 91 = 1 := by kernel_rfl
theorem by91 : Tryz.prog.bytesOf 91 = 8 := by kernel_rfl
theorem c92 : Tryz.prog.cellsOf 92 = 1 := by kernel_rfl
theorem by92 : Tryz.prog.bytesOf 92 = 8 := by kernel_rfl
theorem c93 : Tryz.prog.cellsOf 93 = 1 := by kernel_rfl
theorem by93 : Tryz.prog.bytesOf 93 = 0 := by kernel_rfl
theorem c94 : Tryz.prog.cellsOf 94 = 1 := by kernel_rfl
theorem by94 : Tryz.prog.bytesOf 94 = 8 := by kernel_rfl
theorem c95 : Tryz.prog.cellsOf 95 = 1 := by kernel_rfl
theorem by95 : Tryz.prog.bytesOf 95 = 8 := by kernel_rfl
theorem c96 : Tryz.prog.cellsOf 96 = 1 := by kernel_rfl
theorem by96 : Tryz.prog.bytesOf 96 = 0 := by kernel_rfl
theorem c97 : Tryz.prog.cellsOf 97 = 1 := by kernel_rfl
theorem by97 : Tryz.prog.bytesOf 97 = 8 := by kernel_rfl
theorem c98 : Tryz.prog.cellsOf 98 = 1 := by kernel_rfl
theorem by98 : Tryz.prog.bytesOf 98 = 8 := by kernel_rfl
theorem c99 : Tryz.prog.cellsOf 99 = 1 := by kernel_rfl
theorem by99 : Tryz.prog.bytesOf 99 = 8 := by kernel_rfl
theorem c100 : Tryz.prog.cellsOf 100 = 1 := by kernel_rfl
theorem by100 : Tryz.prog.bytesOf 100 = 24 := by kernel_rfl
theorem c101 : Tryz.prog.cellsOf 101 = 1 := by kernel_rfl
theorem by101 : Tryz.prog.bytesOf 101 = 8 := by kernel_rfl
theorem c102 : Tryz.prog.cellsOf 102 = 1 := by kernel_rfl
theorem by102 : Tryz.prog.bytesOf 102 = 8 := by kernel_rfl
theorem c103 : Tryz.prog.cellsOf 103 = 1 := by kernel_rfl
theorem by103 : Tryz.prog.bytesOf 103 = 0 := by kernel_rfl
theorem c104 : Tryz.prog.cellsOf 104 = 1 := by kernel_rfl
theorem by104 : Tryz.prog.bytesOf 104 = 8 := by kernel_rfl
theorem c105 : Tryz.prog.cellsOf 105 = 3 := by kernel_rfl
theorem by105 : Tryz.prog.bytesOf 105 = 56 := by kernel_rfl
theorem c106 : Tryz.prog.cellsOf 106 = 3 := by kernel_rfl
theorem by106 : Tryz.prog.bytesOf 106 = 56 := by kernel_rfl
theorem c107 : Tryz.prog.cellsOf 107 = 1 := by kernel_rfl
theorem by107 : Tryz.prog.bytesOf 107 = 8 := by kernel_rfl
theorem c108 : Tryz.prog.cellsOf 108 = 1 := by kernel_rfl
theorem by108 : Tryz.prog.bytesOf 108 = 24 := by kernel_rfl
theorem c109 : Tryz.prog.cellsOf 109 = 1 := by kernel_rfl
theorem by109 : Tryz.prog.bytesOf 109 = 24 := by kernel_rfl
theorem c110 : Tryz.prog.cellsOf 110 = 1 := by kernel_rfl
theorem by110 : Tryz.prog.bytesOf 110 = 8 := by kernel_rfl
theorem c111 : Tryz.prog.cellsOf 111 = 1 := by kernel_rfl
theorem by111 : Tryz.prog.bytesOf 111 = 8 := by kernel_rfl
theorem c112 : Tryz.prog.cellsOf 112 = 1 := by kernel_rfl
theorem by112 : Tryz.prog.bytesOf 112 = 8 := by kernel_rfl
theorem c113 : Tryz.prog.cellsOf 113 = 1 := by kernel_rfl
theorem by113 : Tryz.prog.bytesOf 113 = 0 := by kernel_rfl
theorem c114 : Tryz.prog.cellsOf 114 = 1 := by kernel_rfl
theorem by114 : Tryz.prog.bytesOf 114 = 8 := by kernel_rfl
theorem c115 : Tryz.prog.cellsOf 115 = 1 := by kernel_rfl
theorem by115 : Tryz.prog.bytesOf 115 = 8 := by kernel_rfl
theorem c116 : Tryz.prog.cellsOf 116 = 1 := by kernel_rfl
theorem by116 : Tryz.prog.bytesOf 116 = 8 := by kernel_rfl
theorem c117 : Tryz.prog.cellsOf 117 = 1 := by kernel_rfl
theorem by117 : Tryz.prog.bytesOf 117 = 8 := by kernel_rfl
theorem c118 : Tryz.prog.cellsOf 118 = 1 := by kernel_rfl
theorem by118 : Tryz.prog.bytesOf 118 = 24 := by kernel_rfl
theorem c119 : Tryz.prog.cellsOf 119 = 1 := by kernel_rfl
theorem by119 : Tryz.prog.bytesOf 119 = 8 := by kernel_rfl
theorem c120 : Tryz.prog.cellsOf 120 = 1 := by kernel_rfl
theorem by120 : Tryz.prog.bytesOf 120 = 8 := by kernel_rfl
theorem c121 : Tryz.prog.cellsOf 121 = 1 := by kernel_rfl
theorem by121 : Tryz.prog.bytesOf 121 = 8 := by kernel_rfl
theorem c122 : Tryz.prog.cellsOf 122 = 1 := by kernel_rfl
theorem by122 : Tryz.prog.bytesOf 122 = 8 := by kernel_rfl
theorem c123 : Tryz.prog.cellsOf 123 = 1 := by kernel_rfl
theorem by123 : Tryz.prog.bytesOf 123 = 0 := by kernel_rfl
theorem c124 : Tryz.prog.cellsOf 124 = 1 := by kernel_rfl
theorem by124 : Tryz.prog.bytesOf 124 = 8 := by kernel_rfl
theorem c125 : Tryz.prog.cellsOf 125 = 1 := by kernel_rfl
theorem by125 : Tryz.prog.bytesOf 125 = 8 := by kernel_rfl
theorem c126 : Tryz.prog.cellsOf 126 = 1 := by kernel_rfl
theorem by126 : Tryz.prog.bytesOf 126 = 8 := by kernel_rfl
theorem c127 : Tryz.prog.cellsOf 127 = 1 := by kernel_rfl
theorem by127 : Tryz.prog.bytesOf 127 = 8 := by kernel_rfl
theorem c128 : Tryz.prog.cellsOf 128 = 1 := by kernel_rfl
theorem by128 : Tryz.prog.bytesOf 128 = 8 := by kernel_rfl
theorem c129 : Tryz.prog.cellsOf 129 = 1 := by kernel_rfl
theorem by129 : Tryz.prog.bytesOf 129 = 8 := by kernel_rfl
theorem c130 : Tryz.prog.cellsOf 130 = 1 := by kernel_rfl
theorem by130 : Tryz.prog.bytesOf 130 = 8 := by kernel_rfl
theorem c131 : Tryz.prog.cellsOf 131 = 1 := by kernel_rfl
theorem by131 : Tryz.prog.bytesOf 131 = 8 := by kernel_rfl
theorem c132 : Tryz.prog.cellsOf 132 = 1 := by kernel_rfl
theorem by132 : Tryz.prog.bytesOf 132 = 8 := by kernel_rfl
theorem c133 : Tryz.prog.cellsOf 133 = 1 := by kernel_rfl
theorem by133 : Tryz.prog.bytesOf 133 = 8 := by kernel_rfl
theorem c134 : Tryz.prog.cellsOf 134 = 1 := by kernel_rfl
theorem by134 : Tryz.prog.bytesOf 134 = 8 := by kernel_rfl
theorem c135 : Tryz.prog.cellsOf 135 = 1 := by kernel_rfl
theorem by135 : Tryz.prog.bytesOf 135 = 8 := by kernel_rfl
theorem c136 : Tryz.prog.cellsOf 136 = 1 := by kernel_rfl
theorem by136 : Tryz.prog.bytesOf 136 = 8 := by kernel_rfl
theorem c137 : Tryz.prog.cellsOf 137 = 1 := by kernel_rfl
theorem by137 : Tryz.prog.bytesOf 137 = 8 := by kernel_rfl
theorem c138 : Tryz.prog.cellsOf 138 = 1 := by kernel_rfl
theorem by138 : Tryz.prog.bytesOf 138 = 8 := by kernel_rfl
theorem c139 : Tryz.prog.cellsOf 139 = 1 := by kernel_rfl
theorem by139 : Tryz.prog.bytesOf 139 = 16 := by kernel_rfl
theorem c140 : Tryz.prog.cellsOf 140 = 1 := by kernel_rfl
theorem by140 : Tryz.prog.bytesOf 140 = 16 := by kernel_rfl
theorem c141 : Tryz.prog.cellsOf 141 = 2 := by kernel_rfl
theorem by141 : Tryz.prog.bytesOf 141 = 24 := by kernel_rfl
theorem c142 : Tryz.prog.cellsOf 142 = 2 := by kernel_rfl
theorem by142 : Tryz.prog.bytesOf 142 = 24 := by kernel_rfl
theorem c143 : Tryz.prog.cellsOf 143 = 1 := by kernel_rfl
theorem by143 : Tryz.prog.bytesOf 143 = 8 := by kernel_rfl
theorem c144 : Tryz.prog.cellsOf 144 = 65 := by kernel_rfl
theorem by144 : Tryz.prog.bytesOf 144 = 88 := by kernel_rfl
theorem c145 : Tryz.prog.cellsOf 145 = 65 := by kernel_rfl
theorem by145 : Tryz.prog.bytesOf 145 = 88 := by kernel_rfl
theorem c146 : Tryz.prog.cellsOf 146 = 1 := by kernel_rfl
theorem by146 : Tryz.prog.bytesOf 146 = 8 := by kernel_rfl
theorem c147 : Tryz.prog.cellsOf 147 = 1 := by kernel_rfl
theorem by147 : Tryz.prog.bytesOf 147 = 8 := by kernel_rfl
theorem c148 : Tryz.prog.cellsOf 148 = 1 := by kernel_rfl
theorem by148 : Tryz.prog.bytesOf 148 = 24 := by kernel_rfl
theorem c149 : Tryz.prog.cellsOf 149 = 35 := by kernel_rfl
theorem by149 : Tryz.prog.bytesOf 149 = 72 := by kernel_rfl
theorem c150 : Tryz.prog.cellsOf 150 = 35 := by kernel_rfl
theorem by150 : Tryz.prog.bytesOf 150 = 72 := by kernel_rfl
theorem c151 : Tryz.prog.cellsOf 151 = 1 := by kernel_rfl
theorem by151 : Tryz.prog.bytesOf 151 = 8 := by kernel_rfl
theorem c152 : Tryz.prog.cellsOf 152 = 1 := by kernel_rfl
theorem by152 : Tryz.prog.bytesOf 152 = 8 := by kernel_rfl
theorem c153 : Tryz.prog.cellsOf 153 = 1 := by kernel_rfl
theorem by153 : Tryz.prog.bytesOf 153 = 8 := by kernel_rfl
theorem c154 : Tryz.prog.cellsOf 154 = 1 := by kernel_rfl
theorem by154 : Tryz.prog.bytesOf 154 = 8 := by kernel_rfl
theorem c155 : Tryz.prog.cellsOf 155 = 1 := by kernel_rfl
theorem by155 : Tryz.prog.bytesOf 155 = 8 := by kernel_rfl
theorem c156 : Tryz.prog.cellsOf 156 = 1 := by kernel_rfl
theorem by156 : Tryz.prog.bytesOf 156 = 8 := by kernel_rfl
theorem c157 : Tryz.prog.cellsOf 157 = 1 := by kernel_rfl
theorem by157 : Tryz.prog.bytesOf 157 = 0 := by kernel_rfl
theorem c158 : Tryz.prog.cellsOf 158 = 1 := by kernel_rfl
theorem by158 : Tryz.prog.bytesOf 158 = 8 := by kernel_rfl
theorem c159 : Tryz.prog.cellsOf 159 = 1 := by kernel_rfl
theorem by159 : Tryz.prog.bytesOf 159 = 8 := by kernel_rfl
theorem c160 : Tryz.prog.cellsOf 160 = 1 := by kernel_rfl
theorem by160 : Tryz.prog.bytesOf 160 = 0 := by kernel_rfl
theorem c161 : Tryz.prog.cellsOf 161 = 1 := by kernel_rfl
theorem by161 : Tryz.prog.bytesOf 161 = 8 := by kernel_rfl
theorem c162 : Tryz.prog.cellsOf 162 = 34 := by kernel_rfl
theorem by162 : Tryz.prog.bytesOf 162 = 80 := by kernel_rfl
theorem c163 : Tryz.prog.cellsOf 163 = 34 := by kernel_rfl
theorem by163 : Tryz.prog.bytesOf 163 = 80 := by kernel_rfl
theorem c164 : Tryz.prog.cellsOf 164 = 1 := by kernel_rfl
theorem by164 : Tryz.prog.bytesOf 164 = 0 := by kernel_rfl
theorem c165 : Tryz.prog.cellsOf 165 = 1 := by kernel_rfl
theorem by165 : Tryz.prog.bytesOf 165 = 8 := by kernel_rfl
theorem c166 : Tryz.prog.cellsOf 166 = 1 := by kernel_rfl
theorem by166 : Tryz.prog.bytesOf 166 = 8 := by kernel_rfl
theorem c167 : Tryz.prog.cellsOf 167 = 1 := by kernel_rfl
theorem by167 : Tryz.prog.bytesOf 167 = 8 := by kernel_rfl
theorem c168 : Tryz.prog.cellsOf 168 = 1 := by kernel_rfl
theorem by168 : Tryz.prog.bytesOf 168 = 8 := by kernel_rfl
theorem c169 : Tryz.prog.cellsOf 169 = 1 := by kernel_rfl
theorem by169 : Tryz.prog.bytesOf 169 = 8 := by kernel_rfl
theorem c170 : Tryz.prog.cellsOf 170 = 1 := by kernel_rfl
theorem by170 : Tryz.prog.bytesOf 170 = 8 := by kernel_rfl
theorem c171 : Tryz.prog.cellsOf 171 = 1 := by kernel_rfl
theorem by171 : Tryz.prog.bytesOf 171 = 8 := by kernel_rfl
theorem c172 : Tryz.prog.cellsOf 172 = 1 := by kernel_rfl
theorem by172 : Tryz.prog.bytesOf 172 = 8 := by kernel_rfl
theorem c173 : Tryz.prog.cellsOf 173 = 1 := by kernel_rfl
theorem by173 : Tryz.prog.bytesOf 173 = 8 := by kernel_rfl
theorem c174 : Tryz.prog.cellsOf 174 = 1 := by kernel_rfl
theorem by174 : Tryz.prog.bytesOf 174 = 8 := by kernel_rfl
theorem c175 : Tryz.prog.cellsOf 175 = 1 := by kernel_rfl
theorem by175 : Tryz.prog.bytesOf 175 = 8 := by kernel_rfl
theorem c176 : Tryz.prog.cellsOf 176 = 1 := by kernel_rfl
theorem by176 : Tryz.prog.bytesOf 176 = 8 := by kernel_rfl
theorem c177 : Tryz.prog.cellsOf 177 = 1 := by kernel_rfl
theorem by177 : Tryz.prog.bytesOf 177 = 8 := by kernel_rfl
theorem c178 : Tryz.prog.cellsOf 178 = 1 := by kernel_rfl
theorem by178 : Tryz.prog.bytesOf 178 = 8 := by kernel_rfl
theorem c179 : Tryz.prog.cellsOf 179 = 1 := by kernel_rfl
theorem by179 : Tryz.prog.bytesOf 179 = 8 := by kernel_rfl
theorem c180 : Tryz.prog.cellsOf 180 = 1 := by kernel_rfl
theorem by180 : Tryz.prog.bytesOf 180 = 8 := by kernel_rfl
theorem c181 : Tryz.prog.cellsOf 181 = 1 := by kernel_rfl
theorem by181 : Tryz.prog.bytesOf 181 = 8 := by kernel_rfl
theorem c182 : Tryz.prog.cellsOf 182 = 1 := by kernel_rfl
theorem by182 : Tryz.prog.bytesOf 182 = 8 := by kernel_rfl
theorem c183 : Tryz.prog.cellsOf 183 = 1 := by kernel_rfl
theorem by183 : Tryz.prog.bytesOf 183 = 8 := by kernel_rfl
theorem c184 : Tryz.prog.cellsOf 184 = 1 := by kernel_rfl
theorem by184 : Tryz.prog.bytesOf 184 = 8 := by kernel_rfl
theorem c185 : Tryz.prog.cellsOf 185 = 1 := by kernel_rfl
theorem by185 : Tryz.prog.bytesOf 185 = 8 := by kernel_rfl
theorem c186 : Tryz.prog.cellsOf 186 = 1 := by kernel_rfl
theorem by186 : Tryz.prog.bytesOf 186 = 8 := by kernel_rfl
theorem c187 : Tryz.prog.cellsOf 187 = 1 := by kernel_rfl
theorem by187 : Tryz.prog.bytesOf 187 = 8 := by kernel_rfl
theorem c188 : Tryz.prog.cellsOf 188 = 1 := by kernel_rfl
theorem by188 : Tryz.prog.bytesOf 188 = 8 := by kernel_rfl
theorem c189 : Tryz.prog.cellsOf 189 = 1 := by kernel_rfl
theorem by189 : Tryz.prog.bytesOf 189 = 8 := by kernel_rfl
theorem c190 : Tryz.prog.cellsOf 190 = 1 := by kernel_rfl
theorem by190 : Tryz.prog.bytesOf 190 = 8 := by kernel_rfl
theorem c191 : Tryz.prog.cellsOf 191 = 1 := by kernel_rfl
theorem by191 : Tryz.prog.bytesOf 191 = 8 := by kernel_rfl
theorem c192 : Tryz.prog.cellsOf 192 = 1 := by kernel_rfl
theorem by192 : Tryz.prog.bytesOf 192 = 8 := by kernel_rfl
theorem c193 : Tryz.prog.cellsOf 193 = 1 := by kernel_rfl
theorem by193 : Tryz.prog.bytesOf 193 = 8 := by kernel_rfl
theorem c194 : Tryz.prog.cellsOf 194 = 1 := by kernel_rfl
theorem by194 : Tryz.prog.bytesOf 194 = 8 := by kernel_rfl
theorem c195 : Tryz.prog.cellsOf 195 = 1 := by kernel_rfl
theorem by195 : Tryz.prog.bytesOf 195 = 8 := by kernel_rfl
theorem c196 : Tryz.prog.cellsOf 196 = 1 := by kernel_rfl
theorem by196 : Tryz.prog.bytesOf 196 = 8 := by kernel_rfl
theorem c197 : Tryz.prog.cellsOf 197 = 1 := by kernel_rfl
theorem by197 : Tryz.prog.bytesOf 197 = 8 := by kernel_rfl
theorem c198 : Tryz.prog.cellsOf 198 = 1 := by kernel_rfl
theorem by198 : Tryz.prog.bytesOf 198 = 8 := by kernel_rfl
theorem c199 : Tryz.prog.cellsOf 199 = 1 := by kernel_rfl
theorem by199 : Tryz.prog.bytesOf 199 = 8 := by kernel_rfl
theorem c200 : Tryz.prog.cellsOf 200 = 1 := by kernel_rfl
theorem by200 : Tryz.prog.bytesOf 200 = 8 := by kernel_rfl
theorem c201 : Tryz.prog.cellsOf 201 = 1 := by kernel_rfl
theorem by201 : Tryz.prog.bytesOf 201 = 8 := by kernel_rfl
theorem c202 : Tryz.prog.cellsOf 202 = 1 := by kernel_rfl
theorem by202 : Tryz.prog.bytesOf 202 = 8 := by kernel_rfl
theorem c203 : Tryz.prog.cellsOf 203 = 1 := by kernel_rfl
theorem by203 : Tryz.prog.bytesOf 203 = 8 := by kernel_rfl
theorem c204 : Tryz.prog.cellsOf 204 = 1 := by kernel_rfl
theorem by204 : Tryz.prog.bytesOf 204 = 8 := by kernel_rfl
theorem c205 : Tryz.prog.cellsOf 205 = 1 := by kernel_rfl
theorem by205 : Tryz.prog.bytesOf 205 = 0 := by kernel_rfl
theorem c206 : Tryz.prog.cellsOf 206 = 1 := by kernel_rfl
theorem by206 : Tryz.prog.bytesOf 206 = 8 := by kernel_rfl
theorem c207 : Tryz.prog.cellsOf 207 = 1 := by kernel_rfl
theorem by207 : Tryz.prog.bytesOf 207 = 8 := by kernel_rfl
theorem c208 : Tryz.prog.cellsOf 208 = 1 := by kernel_rfl
theorem by208 : Tryz.prog.bytesOf 208 = 8 := by kernel_rfl
theorem c209 : Tryz.prog.cellsOf 209 = 1 := by kernel_rfl
theorem by209 : Tryz.prog.bytesOf 209 = 8 := by kernel_rfl
theorem c210 : Tryz.prog.cellsOf 210 = 1 := by kernel_rfl
theorem by210 : Tryz.prog.bytesOf 210 = 8 := by kernel_rfl
theorem c211 : Tryz.prog.cellsOf 211 = 1 := by kernel_rfl
theorem by211 : Tryz.prog.bytesOf 211 = 8 := by kernel_rfl
theorem c212 : Tryz.prog.cellsOf 212 = 1 := by kernel_rfl
theorem by212 : Tryz.prog.bytesOf 212 = 8 := by kernel_rfl
theorem c213 : Tryz.prog.cellsOf 213 = 1 := by kernel_rfl
theorem by213 : Tryz.prog.bytesOf 213 = 8 := by kernel_rfl
theorem c214 : Tryz.prog.cellsOf 214 = 1 := by kernel_rfl
theorem by214 : Tryz.prog.bytesOf 214 = 8 := by kernel_rfl
theorem c215 : Tryz.prog.cellsOf 215 = 1 := by kernel_rfl
theorem by215 : Tryz.prog.bytesOf 215 = 8 := by kernel_rfl
theorem c216 : Tryz.prog.cellsOf 216 = 1 := by kernel_rfl
theorem by216 : Tryz.prog.bytesOf 216 = 8 := by kernel_rfl
theorem c217 : Tryz.prog.cellsOf 217 = 1 := by kernel_rfl
theorem by217 : Tryz.prog.bytesOf 217 = 0 := by kernel_rfl
theorem c218 : Tryz.prog.cellsOf 218 = 1 := by kernel_rfl
theorem by218 : Tryz.prog.bytesOf 218 = 8 := by kernel_rfl
theorem c219 : Tryz.prog.cellsOf 219 = 1 := by kernel_rfl
theorem by219 : Tryz.prog.bytesOf 219 = 8 := by kernel_rfl
theorem c220 : Tryz.prog.cellsOf 220 = 1 := by kernel_rfl
theorem by220 : Tryz.prog.bytesOf 220 = 8 := by kernel_rfl
theorem c221 : Tryz.prog.cellsOf 221 = 1 := by kernel_rfl
theorem by221 : Tryz.prog.bytesOf 221 = 4 := by kernel_rfl
theorem c222 : Tryz.prog.cellsOf 222 = 8 := by kernel_rfl
theorem by222 : Tryz.prog.bytesOf 222 = 32 := by kernel_rfl
theorem c223 : Tryz.prog.cellsOf 223 = 1 := by kernel_rfl
theorem by223 : Tryz.prog.bytesOf 223 = 8 := by kernel_rfl
theorem c224 : Tryz.prog.cellsOf 224 = 1 := by kernel_rfl
theorem by224 : Tryz.prog.bytesOf 224 = 8 := by kernel_rfl
theorem c225 : Tryz.prog.cellsOf 225 = 1 := by kernel_rfl
theorem by225 : Tryz.prog.bytesOf 225 = 8 := by kernel_rfl
theorem c226 : Tryz.prog.cellsOf 226 = 1 := by kernel_rfl
theorem by226 : Tryz.prog.bytesOf 226 = 8 := by kernel_rfl
theorem c227 : Tryz.prog.cellsOf 227 = 1 := by kernel_rfl
theorem by227 : Tryz.prog.bytesOf 227 = 8 := by kernel_rfl
theorem c228 : Tryz.prog.cellsOf 228 = 1 := by kernel_rfl
theorem by228 : Tryz.prog.bytesOf 228 = 8 := by kernel_rfl
theorem c229 : Tryz.prog.cellsOf 229 = 1 := by kernel_rfl
theorem by229 : Tryz.prog.bytesOf 229 = 8 := by kernel_rfl
theorem c230 : Tryz.prog.cellsOf 230 = 1 := by kernel_rfl
theorem by230 : Tryz.prog.bytesOf 230 = 8 := by kernel_rfl
theorem c231 : Tryz.prog.cellsOf 231 = 64 := by kernel_rfl
theorem by231 : Tryz.prog.bytesOf 231 = 64 := by kernel_rfl
theorem c232 : Tryz.prog.cellsOf 232 = 74 := by kernel_rfl
theorem by232 : Tryz.prog.bytesOf 232 = 112 := by kernel_rfl
theorem c233 : Tryz.prog.cellsOf 233 = 74 := by kernel_rfl
theorem by233 : Tryz.prog.bytesOf 233 = 112 := by kernel_rfl
theorem c234 : Tryz.prog.cellsOf 234 = 1 := by kernel_rfl
theorem by234 : Tryz.prog.bytesOf 234 = 8 := by kernel_rfl
theorem c235 : Tryz.prog.cellsOf 235 = 1 := by kernel_rfl
theorem by235 : Tryz.prog.bytesOf 235 = 24 := by kernel_rfl
theorem c236 : Tryz.prog.cellsOf 236 = 1 := by kernel_rfl
theorem by236 : Tryz.prog.bytesOf 236 = 24 := by kernel_rfl
theorem c237 : Tryz.prog.cellsOf 237 = 1 := by kernel_rfl
theorem by237 : Tryz.prog.bytesOf 237 = 8 := by kernel_rfl
theorem c238 : Tryz.prog.cellsOf 238 = 1 := by kernel_rfl
theorem by238 : Tryz.prog.bytesOf 238 = 8 := by kernel_rfl
theorem c239 : Tryz.prog.cellsOf 239 = 1 := by kernel_rfl
theorem by239 : Tryz.prog.bytesOf 239 = 8 := by kernel_rfl
theorem c240 : Tryz.prog.cellsOf 240 = 1 := by kernel_rfl
theorem by240 : Tryz.prog.bytesOf 240 = 8 := by kernel_rfl
theorem c241 : Tryz.prog.cellsOf 241 = 64 := by kernel_rfl
theorem by241 : Tryz.prog.bytesOf 241 = 256 := by kernel_rfl
theorem c242 : Tryz.prog.cellsOf 242 = 1 := by kernel_rfl
theorem by242 : Tryz.prog.bytesOf 242 = 8 := by kernel_rfl
theorem c243 : Tryz.prog.cellsOf 243 = 1 := by kernel_rfl
theorem by243 : Tryz.prog.bytesOf 243 = 8 := by kernel_rfl
theorem c244 : Tryz.prog.cellsOf 244 = 1 := by kernel_rfl
theorem by244 : Tryz.prog.bytesOf 244 = 8 := by kernel_rfl
theorem c245 : Tryz.prog.cellsOf 245 = 1 := by kernel_rfl
theorem by245 : Tryz.prog.bytesOf 245 = 8 := by kernel_rfl
theorem c246 : Tryz.prog.cellsOf 246 = 1 := by kernel_rfl
theorem by246 : Tryz.prog.bytesOf 246 = 8 := by kernel_rfl
theorem c247 : Tryz.prog.cellsOf 247 = 1 := by kernel_rfl
theorem by247 : Tryz.prog.bytesOf 247 = 8 := by kernel_rfl
theorem c248 : Tryz.prog.cellsOf 248 = 1 := by kernel_rfl
theorem by248 : Tryz.prog.bytesOf 248 = 8 := by kernel_rfl
theorem c249 : Tryz.prog.cellsOf 249 = 1 := by kernel_rfl
theorem by249 : Tryz.prog.bytesOf 249 = 8 := by kernel_rfl
theorem c250 : Tryz.prog.cellsOf 250 = 1 := by kernel_rfl
theorem by250 : Tryz.prog.bytesOf 250 = 8 := by kernel_rfl
theorem c251 : Tryz.prog.cellsOf 251 = 1 := by kernel_rfl
theorem by251 : Tryz.prog.bytesOf 251 = 8 := by kernel_rfl
theorem c252 : Tryz.prog.cellsOf 252 = 1 := by kernel_rfl
theorem by252 : Tryz.prog.bytesOf 252 = 8 := by kernel_rfl
theorem c253 : Tryz.prog.cellsOf 253 = 1 := by kernel_rfl
theorem by253 : Tryz.prog.bytesOf 253 = 8 := by kernel_rfl
theorem c254 : Tryz.prog.cellsOf 254 = 4 := by kernel_rfl
theorem by254 : Tryz.prog.bytesOf 254 = 40 := by kernel_rfl
theorem c255 : Tryz.prog.cellsOf 255 = 4 := by kernel_rfl
theorem by255 : Tryz.prog.bytesOf 255 = 40 := by kernel_rfl
theorem c256 : Tryz.prog.cellsOf 256 = 0 := by kernel_rfl
theorem by256 : Tryz.prog.bytesOf 256 = 0 := by kernel_rfl
theorem c257 : Tryz.prog.cellsOf 257 = 0 := by kernel_rfl
theorem by257 : Tryz.prog.bytesOf 257 = 0 := by kernel_rfl
theorem c258 : Tryz.prog.cellsOf 258 = 0 := by kernel_rfl
theorem by258 : Tryz.prog.bytesOf 258 = 0 := by kernel_rfl
theorem c259 : Tryz.prog.cellsOf 259 = 1 := by kernel_rfl
theorem by259 : Tryz.prog.bytesOf 259 = 1 := by kernel_rfl
theorem c260 : Tryz.prog.cellsOf 260 = 1 := by kernel_rfl
theorem by260 : Tryz.prog.bytesOf 260 = 1 := by kernel_rfl
theorem c261 : Tryz.prog.cellsOf 261 = 1 := by kernel_rfl
theorem by261 : Tryz.prog.bytesOf 261 = 8 := by kernel_rfl
theorem c262 : Tryz.prog.cellsOf 262 = 1 := by kernel_rfl
theorem by262 : Tryz.prog.bytesOf 262 = 8 := by kernel_rfl
theorem c263 : Tryz.prog.cellsOf 263 = 1 := by kernel_rfl
theorem by263 : Tryz.prog.bytesOf 263 = 4 := by kernel_rfl
theorem c264 : Tryz.prog.cellsOf 264 = 1 := by kernel_rfl
theorem by264 : Tryz.prog.bytesOf 264 = 4 := by kernel_rfl
theorem c265 : Tryz.prog.cellsOf 265 = 11 := by kernel_rfl
theorem by265 : Tryz.prog.bytesOf 265 = 48 := by kernel_rfl
theorem c266 : Tryz.prog.cellsOf 266 = 11 := by kernel_rfl
theorem by266 : Tryz.prog.bytesOf 266 = 48 := by kernel_rfl
theorem c267 : Tryz.prog.cellsOf 267 = 1 := by kernel_rfl
theorem by267 : Tryz.prog.bytesOf 267 = 8 := by kernel_rfl
theorem z1 : zeroOf Tryz.prog 1 = some (.nilFunc) := by kernel_rfl
theorem z2 : zeroOf Tryz.prog 2 = some (.int .i64 0) := by kernel_rfl
theorem z3 : zeroOf Tryz.prog 3 = some (.int .i64 0) := by kernel_rfl
theorem z4 : zeroOf Tryz.prog 4 = some (.bool false) := by kernel_rfl
theorem z5 : zeroOf Tryz.prog 5 = some (.int .u8 0) := by kernel_rfl
theorem z6 : zeroOf Tryz.prog 6 = some (.int .u8 0) := by kernel_rfl
theorem z7 : zeroOf Tryz.prog 7 = some (.agg ([.int .i64 0, .int .i64 0] ++ [.bool false] ++ [.int .u8 0] : List Value).toArray) := by kernel_rfl
theorem z8 : zeroOf Tryz.prog 8 = some (.agg ([.int .i64 0, .int .i64 0] ++ [.bool false] ++ [.int .u8 0] : List Value).toArray) := by kernel_rfl
theorem z9 : zeroOf Tryz.prog 9 = some (.string ByteArray.empty) := by kernel_rfl
theorem z10 : zeroOf Tryz.prog 10 = some (.string ByteArray.empty) := by kernel_rfl
theorem z11 : zeroOf Tryz.prog 11 = some (.string ByteArray.empty) := by kernel_rfl
theorem z12 : zeroOf Tryz.prog 12 = some (.int .u64 0) := by kernel_rfl
theorem z13 : zeroOf Tryz.prog 13 = some (.agg ([.string ByteArray.empty] ++ [.int .u64 0] : List Value).toArray) := by kernel_rfl
theorem z14 : zeroOf Tryz.prog 14 = some (.agg ([.string ByteArray.empty] ++ [.int .u64 0] : List Value).toArray) := by kernel_rfl
theorem z15 : zeroOf Tryz.prog 15 = some (.pointer none) := by kernel_rfl
theorem z16 : zeroOf Tryz.prog 16 = some (.pointer none) := by kernel_rfl
theorem z17 : zeroOf Tryz.prog 17 = some (.pointer none) := by kernel_rfl
theorem z18 : zeroOf Tryz.prog 18 = some (.agg ([.pointer none] : List Value).toArray) := by kernel_rfl
theorem z19 : zeroOf Tryz.prog 19 = some (.agg ([.pointer none] : List Value).toArray) := by kernel_rfl
theorem z20 : zeroOf Tryz.prog 20 = some (.nilIface) := by kernel_rfl
theorem z21 : zeroOf Tryz.prog 21 = some (.int .i32 0) := by kernel_rfl
theorem z22 : zeroOf Tryz.prog 22 = some (.slice none 0 0) := by kernel_rfl
theorem z23 : zeroOf Tryz.prog 23 = some (.slice none 0 0) := by kernel_rfl
theorem z24 : zeroOf Tryz.prog 24 = some (.slice none 0 0) := by kernel_rfl
theorem z25 : zeroOf Tryz.prog 25 = some (.agg ([.slice none 0 0, .slice none 0 0] : List Value).toArray) := by kernel_rfl
theorem z26 : zeroOf Tryz.prog 26 = some (.agg ([.slice none 0 0, .slice none 0 0] : List Value).toArray) := by kernel_rfl
theorem z27 : zeroOf Tryz.prog 27 = some (.agg (List.replicate 32 (.int .u8 0) : List Value).toArray) := by kernel_rfl
theorem z28 : zeroOf Tryz.prog 28 = some (.agg (List.replicate 32 (.int .u8 0) : List Value).toArray) := by kernel_rfl
theorem z29 : zeroOf Tryz.prog 29 = some (.agg ([.int .i64 0] ++ [.slice none 0 0, .slice none 0 0, .slice none 0 0] ++ List.replicate 32 (.int .u8 0) : List Value).toArray) := by kernel_rfl
theorem z30 : zeroOf Tryz.prog 30 = some (.agg ([.int .i64 0] ++ [.slice none 0 0, .slice none 0 0, .slice none 0 0] ++ List.replicate 32 (.int .u8 0) : List Value).toArray) := by kernel_rfl
theorem z31 : zeroOf Tryz.prog 31 = some (.nilFunc) := by kernel_rfl
theorem z33 : zeroOf Tryz.prog 33 = some (.nilFunc) := by kernel_rfl
theorem z35 : zeroOf Tryz.prog 35 = some (.nilFunc) := by kernel_rfl
theorem z36 : zeroOf Tryz.prog 36 = some (.slice none 0 0) := by kernel_rfl
theorem z38 : zeroOf Tryz.prog 38 = some (.nilFunc) := by kernel_rfl
theorem z39 : zeroOf Tryz.prog 39 = some (.int .i64 0) := by kernel_rfl
theorem z41 : zeroOf Tryz.prog 41 = some (.nilFunc) := by kernel_rfl
theorem z43 : zeroOf Tryz.prog 43 = some (.nilFunc) := by kernel_rfl
theorem z44 : zeroOf Tryz.prog 44 = some (.nilFunc) := by kernel_rfl
theorem z45 : zeroOf Tryz.prog 45 = some (.nilFunc) := by kernel_rfl
theorem z46 : zeroOf Tryz.prog 46 = some (.agg ([.slice none 0 0, .slice none 0 0] : List Value).toArray) := by kernel_rfl
theorem z47 : zeroOf Tryz.prog 47 = some (.agg ([.slice none 0 0, .slice none 0 0] : List Value).toArray) := by kernel_rfl
theorem z48 : zeroOf Tryz.prog 48 = some (.int .u16 0) := by kernel_rfl
theorem z49 : zeroOf Tryz.prog 49 = some (.slice none 0 0) := by kernel_rfl
theorem z50 : zeroOf Tryz.prog 50 = some (.agg ([.int .u16 0] ++ [.slice none 0 0] : List Value).toArray) := by kernel_rfl
theorem z51 : zeroOf Tryz.prog 51 = some (.agg ([.int .u16 0] ++ [.slice none 0 0] : List Value).toArray) := by kernel_rfl
theorem z52 : zeroOf Tryz.prog 52 = some (.nilFunc) := by kernel_rfl
theorem z53 : zeroOf Tryz.prog 53 = some (.nilFunc) := by kernel_rfl
theorem z54 : zeroOf Tryz.prog 54 = some (.nilFunc) := by kernel_rfl
theorem z55 : zeroOf Tryz.prog 55 = some (.pointer none) := by kernel_rfl
theorem z56 : zeroOf Tryz.prog 56 = some (.slice none 0 0) := by kernel_rfl
theorem z58 : zeroOf Tryz.prog 58 = some (.nilFunc) := by kernel_rfl
theorem z59 : zeroOf Tryz.prog 59 = some (.nilFunc) := by kernel_rfl
theorem z61 : zeroOf Tryz.prog 61 = some (.nilFunc) := by kernel_rfl
theorem z63 : zeroOf Tryz.prog 63 = some (.nilFunc) := by kernel_rfl
theorem z64 : zeroOf Tryz.prog 64 = some (.nilFunc) := by kernel_rfl
theorem z65 : zeroOf Tryz.prog 65 = some (.nilFunc) := by kernel_rfl
theorem z67 : zeroOf Tryz.prog 67 = some (.nilFunc) := by kernel_rfl
theorem z68 : zeroOf Tryz.prog 68 = some (.nilFunc) := by kernel_rfl
theorem z69 : zeroOf Tryz.prog 69 = some (.nilFunc) := by kernel_rfl
theorem z70 : zeroOf Tryz.prog 70 = some (.nilFunc) := by kernel_rfl
theorem z71 : zeroOf Tryz.prog 71 = some (.nilFunc) := by kernel_rfl
theorem z72 : zeroOf Tryz.prog 72 = some (.nilFunc) := by kernel_rfl
theorem z73 : zeroOf Tryz.prog 73 = some (.nilFunc) := by kernel_rfl
theorem z75 : zeroOf Tryz.prog 75 = some (.nilFunc) := by kernel_rfl
theorem z76 : zeroOf Tryz.prog 76 = some (.nilFunc) := by kernel_rfl
theorem z77 : zeroOf Tryz.prog 77 = some (.nilFunc) := by kernel_rfl
theorem z79 : zeroOf Tryz.prog 79 = some (.nilFunc) := by kernel_rfl
theorem z80 : zeroOf Tryz.prog 80 = some (.nilFunc) := by kernel_rfl
theorem z81 : zeroOf Tryz.prog 81 = some (.nilFunc) := by kernel_rfl
theorem z82 : zeroOf Tryz.prog 82 = some (.nilFunc) := by kernel_rfl
theorem z84 : zeroOf Tryz.prog 84 = some (.nilFunc) := by kernel_rfl
theorem z85 : zeroOf Tryz.prog 85 = some (.nilFunc) := by kernel_rfl
theorem z86 : zeroOf Tryz.prog 86 = some (.nilFunc) := by kernel_rfl
theorem z87 : zeroOf Tryz.prog 87 = some (.nilFunc) := by kernel_rfl
theorem z88 : zeroOf Tryz.prog 88 = some (.slice none 0 0) := by kernel_rfl
theorem z89 : zeroOf Tryz.prog 89 = some (.nilFunc) := by kernel_rfl
theorem z90 : zeroOf Tryz.prog 90 = some (.nilFunc) := by kernel_rfl
theorem z91 : zeroOf Tryz.prog 91 = some (.nilFunc) := by kernel_rfl
theorem z92 : zeroOf Tryz.prog 92 = some (.nilFunc) := by kernel_rfl
theorem z94 : zeroOf Tryz.prog 94 = some (.nilFunc) := by kernel_rfl
theorem z95 : zeroOf Tryz.prog 95 = some (.nilFunc) := by kernel_rfl
theorem z97 : zeroOf Tryz.prog 97 = some (.nilFunc) := by kernel_rfl
theorem z98 : zeroOf Tryz.prog 98 = some (.nilFunc) := by kernel_rfl
theorem z99 : zeroOf Tryz.prog 99 = some (.nilFunc) := by kernel_rfl
theorem z100 : zeroOf Tryz.prog 100 = some (.slice none 0 0) := by kernel_rfl
theorem z101 : zeroOf Tryz.prog 101 = some (.nilFunc) := by kernel_rfl
theorem z102 : zeroOf Tryz.prog 102 = some (.pointer none) := by kernel_rfl
theorem z104 : zeroOf Tryz.prog 104 = some (.nilFunc) := by kernel_rfl
theorem z105 : zeroOf Tryz.prog 105 = some (.agg ([.int .u8 0] ++ [.slice none 0 0, .slice none 0 0] : List Value).toArray) := by kernel_rfl
theorem z106 : zeroOf Tryz.prog 106 = some (.agg ([.int .u8 0] ++ [.slice none 0 0, .slice none 0 0] : List Value).toArray) := by kernel_rfl
theorem z107 : zeroOf Tryz.prog 107 = some (.nilFunc) := by kernel_rfl
theorem z108 : zeroOf Tryz.prog 108 = some (.agg ([.slice none 0 0] : List Value).toArray) := by kernel_rfl
theorem z109 : zeroOf Tryz.prog 109 = some (.agg ([.slice none 0 0] : List Value).toArray) := by kernel_rfl
theorem z110 : zeroOf Tryz.prog 110 = some (.nilFunc) := by kernel_rfl
theorem z111 : zeroOf Tryz.prog 111 = some (.nilFunc) := by kernel_rfl
theorem z112 : zeroOf Tryz.prog 112 = some (.nilFunc) := by kernel_rfl
theorem z114 : zeroOf Tryz.prog 114 = some (.nilFunc) := by kernel_rfl
theorem z115 : zeroOf Tryz.prog 115 = some (.nilFunc) := by kernel_rfl
theorem z116 : zeroOf Tryz.prog 116 = some (.nilFunc) := by kernel_rfl
theorem z117 : zeroOf Tryz.prog 117 = some (.nilFunc) := by kernel_rfl
theorem z118 : zeroOf Tryz.prog 118 = some (.slice none 0 0) := by kernel_rfl
theorem z119 : zeroOf Tryz.prog 119 = some (.nilFunc) := by kernel_rfl
theorem z120 : zeroOf Tryz.prog 120 = some (.nilFunc) := by kernel_rfl
theorem z121 : zeroOf Tryz.prog 121 = some (.nilFunc) := by kernel_rfl
theorem z122 : zeroOf Tryz.prog 122 = some (.nilFunc) := by kernel_rfl
theorem z124 : zeroOf Tryz.prog 124 = some (.nilFunc) := by kernel_rfl
theorem z125 : zeroOf Tryz.prog 125 = some (.nilFunc) := by kernel_rfl
theorem z126 : zeroOf Tryz.prog 126 = some (.nilFunc) := by kernel_rfl
theorem z127 : zeroOf Tryz.prog 127 = some (.nilFunc) := by kernel_rfl
theorem z128 : zeroOf Tryz.prog 128 = some (.nilFunc) := by kernel_rfl
theorem z129 : zeroOf Tryz.prog 129 = some (.nilFunc) := by kernel_rfl
theorem z130 : zeroOf Tryz.prog 130 = some (.nilFunc) := by kernel_rfl
theorem z131 : zeroOf Tryz.prog 131 = some (.nilFunc) := by kernel_rfl
theorem z132 : zeroOf Tryz.prog 132 = some (.nilFunc) := by kernel_rfl
theorem z133 : zeroOf Tryz.prog 133 = some (.nilFunc) := by kernel_rfl
theorem z134 : zeroOf Tryz.prog 134 = some (.nilFunc) := by kernel_rfl
theorem z135 : zeroOf Tryz.prog 135 = some (.nilFunc) := by kernel_rfl
theorem z136 : zeroOf Tryz.prog 136 = some (.pointer none) := by kernel_rfl
theorem z137 : zeroOf Tryz.prog 137 = some (.nilFunc) := by kernel_rfl
theorem z138 : zeroOf Tryz.prog 138 = some (.nilFunc) := by kernel_rfl
theorem z139 : zeroOf Tryz.prog 139 = some (.nilIface) := by kernel_rfl
theorem z140 : zeroOf Tryz.prog 140 = some (.nilIface) := by kernel_rfl
theorem z141 : zeroOf Tryz.prog 141 = some (.agg ([.int .i64 0] ++ [.nilIface] : List Value).toArray) := by kernel_rfl
theorem z142 : zeroOf Tryz.prog 142 = some (.agg ([.int .i64 0] ++ [.nilIface] : List Value).toArray) := by kernel_rfl
theorem z143 : zeroOf Tryz.prog 143 = some (.pointer none) := by kernel_rfl
theorem z144 : zeroOf Tryz.prog 144 = some (.agg (List.replicate 32 (.int .u8 0) ++ [.slice none 0 0] ++ List.replicate 32 (.int .u8 0) : List Value).toArray) := by kernel_rfl
theorem z145 : zeroOf Tryz.prog 145 = some (.agg (List.replicate 32 (.int .u8 0) ++ [.slice none 0 0] ++ List.replicate 32 (.int .u8 0) : List Value).toArray) := by kernel_rfl
theorem z146 : zeroOf Tryz.prog 146 = some (.pointer none) := by kernel_rfl
theorem z147 : zeroOf Tryz.prog 147 = some (.nilFunc) := by kernel_rfl
theorem z148 : zeroOf Tryz.prog 148 = some (.slice none 0 0) := by kernel_rfl
theorem z149 : zeroOf Tryz.prog 149 = some (.agg ([.int .u16 0] ++ [.slice none 0 0] ++ List.replicate 32 (.int .u8 0) ++ [.int .i64 0] : List Value).toArray) := by kernel_rfl
theorem z150 : zeroOf Tryz.prog 150 = some (.agg ([.int .u16 0] ++ [.slice none 0 0] ++ List.replicate 32 (.int .u8 0) ++ [.int .i64 0] : List Value).toArray) := by kernel_rfl
theorem z151 : zeroOf Tryz.prog 151 = some (.nilFunc) := by kernel_rfl
theorem z152 : zeroOf Tryz.prog 152 = some (.nilFunc) := by kernel_rfl
theorem z153 : zeroOf Tryz.prog 153 = some (.nilFunc) := by kernel_rfl
theorem z154 : zeroOf Tryz.prog 154 = some (.nilFunc) := by kernel_rfl
theorem z155 : zeroOf Tryz.prog 155 = some (.nilFunc) := by kernel_rfl
theorem z156 : zeroOf Tryz.prog 156 = some (.nilFunc) := by kernel_rfl
theorem z158 : zeroOf Tryz.prog 158 = some (.nilFunc) := by kernel_rfl
theorem z159 : zeroOf Tryz.prog 159 = some (.nilFunc) := by kernel_rfl
theorem z161 : zeroOf Tryz.prog 161 = some (.nilFunc) := by kernel_rfl
theorem z162 : zeroOf Tryz.prog 162 = some (.agg (List.replicate 32 (.int .u8 0) ++ [.slice none 0 0, .slice none 0 0] : List Value).toArray) := by kernel_rfl
theorem z163 : zeroOf Tryz.prog 163 = some (.agg (List.replicate 32 (.int .u8 0) ++ [.slice none 0 0, .slice none 0 0] : List Value).toArray) := by kernel_rfl
theorem z165 : zeroOf Tryz.prog 165 = some (.nilFunc) := by kernel_rfl
theorem z166 : zeroOf Tryz.prog 166 = some (.nilFunc) := by kernel_rfl
theorem z167 : zeroOf Tryz.prog 167 = some (.nilFunc) := by kernel_rfl
theorem z168 : zeroOf Tryz.prog 168 = some (.nilFunc) := by kernel_rfl
theorem z169 : zeroOf Tryz.prog 169 = some (.nilFunc) := by kernel_rfl
theorem z170 : zeroOf Tryz.prog 170 = some (.nilFunc) := by kernel_rfl
theorem z171 : zeroOf Tryz.prog 171 = some (.nilFunc) := by kernel_rfl
theorem z172 : zeroOf Tryz.prog 172 = some (.nilFunc) := by kernel_rfl
theorem z173 : zeroOf Tryz.prog 173 = some (.nilFunc) := by kernel_rfl
theorem z174 : zeroOf Tryz.prog 174 = some (.nilFunc) := by kernel_rfl
theorem z175 : zeroOf Tryz.prog 175 = some (.nilFunc) := by kernel_rfl
theorem z176 : zeroOf Tryz.prog 176 = some (.nilFunc) := by kernel_rfl
theorem z177 : zeroOf Tryz.prog 177 = some (.nilFunc) := by kernel_rfl
theorem z178 : zeroOf Tryz.prog 178 = some (.nilFunc) := by kernel_rfl
theorem z179 : zeroOf Tryz.prog 179 = some (.nilFunc) := by kernel_rfl
theorem z180 : zeroOf Tryz.prog 180 = some (.nilFunc) := by kernel_rfl
theorem z181 : zeroOf Tryz.prog 181 = some (.nilFunc) := by kernel_rfl
theorem z182 : zeroOf Tryz.prog 182 = some (.nilFunc) := by kernel_rfl
theorem z183 : zeroOf Tryz.prog 183 = some (.nilFunc) := by kernel_rfl
theorem z184 : zeroOf Tryz.prog 184 = some (.nilFunc) := by kernel_rfl
theorem z185 : zeroOf Tryz.prog 185 = some (.nilFunc) := by kernel_rfl
theorem z186 : zeroOf Tryz.prog 186 = some (.nilFunc) := by kernel_rfl
theorem z187 : zeroOf Tryz.prog 187 = some (.nilFunc) := by kernel_rfl
theorem z188 : zeroOf Tryz.prog 188 = some (.nilFunc) := by kernel_rfl
theorem z189 : zeroOf Tryz.prog 189 = some (.nilFunc) := by kernel_rfl
theorem z190 : zeroOf Tryz.prog 190 = some (.nilFunc) := by kernel_rfl
theorem z191 : zeroOf Tryz.prog 191 = some (.nilFunc) := by kernel_rfl
theorem z192 : zeroOf Tryz.prog 192 = some (.nilFunc) := by kernel_rfl
theorem z193 : zeroOf Tryz.prog 193 = some (.nilFunc) := by kernel_rfl
theorem z194 : zeroOf Tryz.prog 194 = some (.nilFunc) := by kernel_rfl
theorem z195 : zeroOf Tryz.prog 195 = some (.nilFunc) := by kernel_rfl
theorem z196 : zeroOf Tryz.prog 196 = some (.nilFunc) := by kernel_rfl
theorem z197 : zeroOf Tryz.prog 197 = some (.nilFunc) := by kernel_rfl
theorem z198 : zeroOf Tryz.prog 198 = some (.nilFunc) := by kernel_rfl
theorem z199 : zeroOf Tryz.prog 199 = some (.nilFunc) := by kernel_rfl
theorem z200 : zeroOf Tryz.prog 200 = some (.nilFunc) := by kernel_rfl
theorem z201 : zeroOf Tryz.prog 201 = some (.nilFunc) := by kernel_rfl
theorem z202 : zeroOf Tryz.prog 202 = some (.nilFunc) := by kernel_rfl
theorem z203 : zeroOf Tryz.prog 203 = some (.nilFunc) := by kernel_rfl
theorem z204 : zeroOf Tryz.prog 204 = some (.nilFunc) := by kernel_rfl
theorem z206 : zeroOf Tryz.prog 206 = some (.nilFunc) := by kernel_rfl
theorem z207 : zeroOf Tryz.prog 207 = some (.int .u64 0) := by kernel_rfl
theorem z208 : zeroOf Tryz.prog 208 = some (.nilFunc) := by kernel_rfl
theorem z209 : zeroOf Tryz.prog 209 = some (.pointer none) := by kernel_rfl
theorem z210 : zeroOf Tryz.prog 210 = some (.nilFunc) := by kernel_rfl
theorem z211 : zeroOf Tryz.prog 211 = some (.nilFunc) := by kernel_rfl
theorem z212 : zeroOf Tryz.prog 212 = some (.nilFunc) := by kernel_rfl
theorem z213 : zeroOf Tryz.prog 213 = some (.nilFunc) := by kernel_rfl
theorem z214 : zeroOf Tryz.prog 214 = some (.nilFunc) := by kernel_rfl
theorem z215 : zeroOf Tryz.prog 215 = some (.nilFunc) := by kernel_rfl
theorem z216 : zeroOf Tryz.prog 216 = some (.nilFunc) := by kernel_rfl
theorem z218 : zeroOf Tryz.prog 218 = some (.nilFunc) := by kernel_rfl
theorem z219 : zeroOf Tryz.prog 219 = some (.nilFunc) := by kernel_rfl
theorem z220 : zeroOf Tryz.prog 220 = some (.nilFunc) := by kernel_rfl
theorem z221 : zeroOf Tryz.prog 221 = some (.int .u32 0) := by kernel_rfl
theorem z222 : zeroOf Tryz.prog 222 = some (.agg (List.replicate 8 (.int .u32 0) : List Value).toArray) := by kernel_rfl
theorem z223 : zeroOf Tryz.prog 223 = some (.nilFunc) := by kernel_rfl
theorem z224 : zeroOf Tryz.prog 224 = some (.nilFunc) := by kernel_rfl
theorem z225 : zeroOf Tryz.prog 225 = some (.int .u64 0) := by kernel_rfl
theorem z226 : zeroOf Tryz.prog 226 = some (.nilFunc) := by kernel_rfl
theorem z227 : zeroOf Tryz.prog 227 = some (.nilFunc) := by kernel_rfl
theorem z228 : zeroOf Tryz.prog 228 = some (.nilFunc) := by kernel_rfl
theorem z229 : zeroOf Tryz.prog 229 = some (.nilFunc) := by kernel_rfl
theorem z230 : zeroOf Tryz.prog 230 = some (.nilFunc) := by kernel_rfl
theorem z231 : zeroOf Tryz.prog 231 = some (.agg (List.replicate 64 (.int .u8 0) : List Value).toArray) := by kernel_rfl
theorem z232 : zeroOf Tryz.prog 232 = some (.agg (List.replicate 8 (.int .u32 0) ++ [.bool false] ++ List.replicate 64 (.int .u8 0) ++ [.int .u64 0] : List Value).toArray) := by kernel_rfl
theorem z233 : zeroOf Tryz.prog 233 = some (.agg (List.replicate 8 (.int .u32 0) ++ [.bool false] ++ List.replicate 64 (.int .u8 0) ++ [.int .u64 0] : List Value).toArray) := by kernel_rfl
theorem z234 : zeroOf Tryz.prog 234 = some (.nilFunc) := by kernel_rfl
theorem z235 : zeroOf Tryz.prog 235 = some (.agg ([.slice none 0 0] : List Value).toArray) := by kernel_rfl
theorem z236 : zeroOf Tryz.prog 236 = some (.agg ([.slice none 0 0] : List Value).toArray) := by kernel_rfl
theorem z237 : zeroOf Tryz.prog 237 = some (.nilFunc) := by kernel_rfl
theorem z238 : zeroOf Tryz.prog 238 = some (.nilFunc) := by kernel_rfl
theorem z239 : zeroOf Tryz.prog 239 = some (.nilFunc) := by kernel_rfl
theorem z240 : zeroOf Tryz.prog 240 = some (.nilFunc) := by kernel_rfl
theorem z241 : zeroOf Tryz.prog 241 = some (.agg (List.replicate 64 (.int .u32 0) : List Value).toArray) := by kernel_rfl
theorem z242 : zeroOf Tryz.prog 242 = some (.nilFunc) := by kernel_rfl
theorem z243 : zeroOf Tryz.prog 243 = some (.nilFunc) := by kernel_rfl
theorem z244 : zeroOf Tryz.prog 244 = some (.nilFunc) := by kernel_rfl
theorem z245 : zeroOf Tryz.prog 245 = some (.nilFunc) := by kernel_rfl
theorem z246 : zeroOf Tryz.prog 246 = some (.pointer none) := by kernel_rfl
theorem z247 : zeroOf Tryz.prog 247 = some (.nilFunc) := by kernel_rfl
theorem z248 : zeroOf Tryz.prog 248 = some (.nilFunc) := by kernel_rfl
theorem z249 : zeroOf Tryz.prog 249 = some (.nilFunc) := by kernel_rfl
theorem z250 : zeroOf Tryz.prog 250 = some (.nilFunc) := by kernel_rfl
theorem z251 : zeroOf Tryz.prog 251 = some (.nilFunc) := by kernel_rfl
theorem z252 : zeroOf Tryz.prog 252 = some (.nilFunc) := by kernel_rfl
theorem z253 : zeroOf Tryz.prog 253 = some (.nilFunc) := by kernel_rfl
theorem z254 : zeroOf Tryz.prog 254 = some (.agg ([.pointer none, .pointer none, .pointer none] ++ [.string ByteArray.empty] : List Value).toArray) := by kernel_rfl
theorem z255 : zeroOf Tryz.prog 255 = some (.agg ([.pointer none, .pointer none, .pointer none] ++ [.string ByteArray.empty] : List Value).toArray) := by kernel_rfl
theorem z256 : zeroOf Tryz.prog 256 = some (.agg ([] : List Value).toArray) := by kernel_rfl
theorem z257 : zeroOf Tryz.prog 257 = some (.agg ([] : List Value).toArray) := by kernel_rfl
theorem z258 : zeroOf Tryz.prog 258 = some (.agg ([] : List Value).toArray) := by kernel_rfl
theorem z259 : zeroOf Tryz.prog 259 = some (.int .u8 0) := by kernel_rfl
theorem z260 : zeroOf Tryz.prog 260 = some (.int .u8 0) := by kernel_rfl
theorem z261 : zeroOf Tryz.prog 261 = some (.nilFunc) := by kernel_rfl
theorem z262 : zeroOf Tryz.prog 262 = some (.pointer none) := by kernel_rfl
theorem z263 : zeroOf Tryz.prog 263 = some (.int .i32 0) := by kernel_rfl
theorem z264 : zeroOf Tryz.prog 264 = some (.int .i32 0) := by kernel_rfl
theorem z265 : zeroOf Tryz.prog 265 = some (.agg ([.int .u64 0, .int .u64 0] ++ [.int .u32 0] ++ List.replicate 4 (.int .u8 0) ++ [.nilFunc] ++ [.pointer none] ++ [.int .i32 0, .int .i32 0] : List Value).toArray) := by kernel_rfl
theorem z266 : zeroOf Tryz.prog 266 = some (.agg ([.int .u64 0, .int .u64 0] ++ [.int .u32 0] ++ List.replicate 4 (.int .u8 0) ++ [.nilFunc] ++ [.pointer none] ++ [.int .i32 0, .int .i32 0] : List Value).toArray) := by kernel_rfl
theorem z267 : zeroOf Tryz.prog 267 = some (.pointer none) := by kernel_rfl
theorem mixed : Tryz.prog.follows .mixedOrders = true := by kernel_rfl
/-! The rules of the walks, bundled. -/
set_option maxRecDepth 100000 in
theorem VD : type_of% (And.intro (@h_nil) (And.intro (@h_cons) (And.intro (@h_two) (And.intro (@h_load) (And.intro (@h_len) (And.intro (@h_store) (And.intro (@h_alloc) (And.intro (@h_box) (And.intro (@h_bld) (And.intro (@h_call) (And.intro (@h_app) (And.intro (@h_copy) (And.intro (@h_make) (And.intro (@h_move) (And.intro (@h_assign) (And.intro (@h_pick) (And.intro (@h_bin) (And.intro (@h_un) (And.intro (@h_conv) (And.intro (@h_nilC) (And.intro (@h_fldA) (And.intro (@h_fld) (And.intro (@h_idxA) (And.intro (@h_idx) (And.intro (@h_sl) (And.intro (@h_ext) (And.intro (@h_mkI) (And.intro (@h_mkF) (And.intro (@h_bv) (And.intro (@p_bv) (And.intro (@o_bv) (And.intro (@q_bv) (And.intro (@h_asr) (And.intro (@v_skip) (And.intro (@v_region) (And.intro (@v_draw) (And.intro (@v_seq) (And.intro (@v_cond) (And.intro (@v_block) (And.intro (@v_loop) (And.intro (@v_exit) (And.intro (@v_ret) (And.intro (@s_normal) (And.intro (@s_exit) (And.intro (@s_ret) (And.intro (@b_normal) (And.intro (@b_exit_eq) (And.intro (@b_exit_ne) (And.intro (@b_ret) (And.intro (@k_normal) (And.intro (@k_hit) (And.intro (@k_miss) (And.intro (@k_ret) (And.intro (@ops_nil) (And.intro (@ops_cons) (And.intro (@ops_grd) (And.intro (@q_nil) (And.intro (@q_cons) (And.intro (@q_grd) (And.intro (@p_move) (And.intro (@o_move) (And.intro (@q_move) (And.intro (@p_assign) (And.intro (@o_assign) (And.intro (@q_assign) (And.intro (@p_pick) (And.intro (@o_pick) (And.intro (@q_pick) (And.intro (@p_bin) (And.intro (@o_bin) (And.intro (@q_bin) (And.intro (@p_un) (And.intro (@o_un) (And.intro (@q_un) (And.intro (@p_conv) (And.intro (@o_conv) (And.intro (@q_conv) (And.intro (@p_nilC) (And.intro (@o_nilC) (And.intro (@q_nilC) (And.intro (@p_fldA) (And.intro (@o_fldA) (And.intro (@q_fldA) (And.intro (@p_fld) (And.intro (@o_fld) (And.intro (@q_fld) (And.intro (@p_idxA) (And.intro (@o_idxA) (And.intro (@q_idxA) (And.intro (@p_idx) (And.intro (@o_idx) (And.intro (@q_idx) (And.intro (@p_sl) (And.intro (@o_sl) (And.intro (@p_sl3) (And.intro (@o_sl3) (And.intro (@q_sl) (And.intro (@p_ext) (And.intro (@o_ext) (And.intro (@q_ext) (And.intro (@p_mkI) (And.intro (@o_mkI) (And.intro (@q_mkI) (And.intro (@p_mkF) (And.intro (@o_mkF) (And.intro (@q_mkF) (And.intro (@p_asr) (And.intro (@o_asr) (And.intro (@q_asr) (And.intro (@o_load) (And.intro (@o_store) (And.intro (@o_alloc) (And.intro (@o_box) (And.intro (@o_bld) (And.intro (@o_call) (And.intro (@o_len) (And.intro (@o_app) (And.intro (@o_cap) (And.intro (@v_rangeFunc) (And.intro (@o_copy) (And.intro (@o_clear) (And.intro (@o_make) (And.intro (@o_min) (And.intro (@o_max) (And.intro (@q_load) (And.intro (@q_call) (And.intro (@q_len) (And.intro (@e_tmp) (And.intro (@e_const) (And.intro (@e_func) (And.intro (@e_glob) (And.intro (@upd_eq) (And.intro (@upd_ne) (And.intro (@uO_some) (@uO_none))))))))))))))))))))))))))))))))))))))))))))))))))))))))))))))))))))))))))))))))))))))))))))))))))))))))))))))))))))))))))))))))))))))) := And.intro (@h_nil) (And.intro (@h_cons) (And.intro (@h_two) (And.intro (@h_load) (And.intro (@h_len) (And.intro (@h_store) (And.intro (@h_alloc) (And.intro (@h_box) (And.intro (@h_bld) (And.intro (@h_call) (And.intro (@h_app) (And.intro (@h_copy) (And.intro (@h_make) (And.intro (@h_move) (And.intro (@h_assign) (And.intro (@h_pick) (And.intro (@h_bin) (And.intro (@h_un) (And.intro (@h_conv) (And.intro (@h_nilC) (And.intro (@h_fldA) (And.intro (@h_fld) (And.intro (@h_idxA) (And.intro (@h_idx) (And.intro (@h_sl) (And.intro (@h_ext) (And.intro (@h_mkI) (And.intro (@h_mkF) (And.intro (@h_bv) (And.intro (@p_bv) (And.intro (@o_bv) (And.intro (@q_bv) (And.intro (@h_asr) (And.intro (@v_skip) (And.intro (@v_region) (And.intro (@v_draw) (And.intro (@v_seq) (And.intro (@v_cond) (And.intro (@v_block) (And.intro (@v_loop) (And.intro (@v_exit) (And.intro (@v_ret) (And.intro (@s_normal) (And.intro (@s_exit) (And.intro (@s_ret) (And.intro (@b_normal) (And.intro (@b_exit_eq) (And.intro (@b_exit_ne) (And.intro (@b_ret) (And.intro (@k_normal) (And.intro (@k_hit) (And.intro (@k_miss) (And.intro (@k_ret) (And.intro (@ops_nil) (And.intro (@ops_cons) (And.intro (@ops_grd) (And.intro (@q_nil) (And.intro (@q_cons) (And.intro (@q_grd) (And.intro (@p_move) (And.intro (@o_move) (And.intro (@q_move) (And.intro (@p_assign) (And.intro (@o_assign) (And.intro (@q_assign) (And.intro (@p_pick) (And.intro (@o_pick) (And.intro (@q_pick) (And.intro (@p_bin) (And.intro (@o_bin) (And.intro (@q_bin) (And.intro (@p_un) (And.intro (@o_un) (And.intro (@q_un) (And.intro (@p_conv) (And.intro (@o_conv) (And.intro (@q_conv) (And.intro (@p_nilC) (And.intro (@o_nilC) (And.intro (@q_nilC) (And.intro (@p_fldA) (And.intro (@o_fldA) (And.intro (@q_fldA) (And.intro (@p_fld) (And.intro (@o_fld) (And.intro (@q_fld) (And.intro (@p_idxA) (And.intro (@o_idxA) (And.intro (@q_idxA) (And.intro (@p_idx) (And.intro (@o_idx) (And.intro (@q_idx) (And.intro (@p_sl) (And.intro (@o_sl) (And.intro (@p_sl3) (And.intro (@o_sl3) (And.intro (@q_sl) (And.intro (@p_ext) (And.intro (@o_ext) (And.intro (@q_ext) (And.intro (@p_mkI) (And.intro (@o_mkI) (And.intro (@q_mkI) (And.intro (@p_mkF) (And.intro (@o_mkF) (And.intro (@q_mkF) (And.intro (@p_asr) (And.intro (@o_asr) (And.intro (@q_asr) (And.intro (@o_load) (And.intro (@o_store) (And.intro (@o_alloc) (And.intro (@o_box) (And.intro (@o_bld) (And.intro (@o_call) (And.intro (@o_len) (And.intro (@o_app) (And.intro (@o_cap) (And.intro (@v_rangeFunc) (And.intro (@o_copy) (And.intro (@o_clear) (And.intro (@o_make) (And.intro (@o_min) (And.intro (@o_max) (And.intro (@q_load) (And.intro (@q_call) (And.intro (@q_len) (And.intro (@e_tmp) (And.intro (@e_const) (And.intro (@e_func) (And.intro (@e_glob) (And.intro (@upd_eq) (And.intro (@upd_ne) (And.intro (@uO_some) (@uO_none))))))))))))))))))))))))))))))))))))))))))))))))))))))))))))))))))))))))))))))))))))))))))))))))))))))))))))))))))))))))))))))))))))))
set_option maxRecDepth 100000 in
theorem VJ : type_of% (And.intro (@h_nil) (And.intro (@h_cons) (And.intro (@h_two) (And.intro (@h_load) (And.intro (@h_len) (And.intro (@h_store) (And.intro (@h_alloc) (And.intro (@h_box) (And.intro (@h_bld) (And.intro (@h_call) (And.intro (@h_app) (And.intro (@h_copy) (And.intro (@h_make) (And.intro (@h_move) (And.intro (@h_assign) (And.intro (@h_pick) (And.intro (@h_bin) (And.intro (@h_un) (And.intro (@h_conv) (And.intro (@h_nilC) (And.intro (@h_fldA) (And.intro (@h_fld) (And.intro (@h_idxA) (And.intro (@h_idx) (And.intro (@h_sl) (And.intro (@h_ext) (And.intro (@h_mkI) (And.intro (@h_mkF) (And.intro (@h_bv) (And.intro (@p_bv) (And.intro (@o_bv) (And.intro (@q_bv) (And.intro (@h_asr) (And.intro (@v_skip) (And.intro (@v_region) (And.intro (@v_draw) (And.intro (@v_seq) (And.intro (@v_block) (And.intro (@v_loop) (And.intro (@v_exit) (And.intro (@v_ret) (And.intro (@s_normal) (And.intro (@s_exit) (And.intro (@s_ret) (And.intro (@b_normal) (And.intro (@b_exit_eq) (And.intro (@b_exit_ne) (And.intro (@b_ret) (And.intro (@k_normal) (And.intro (@k_hit) (And.intro (@k_miss) (And.intro (@k_ret) (And.intro (@ops_nil) (And.intro (@ops_cons) (And.intro (@ops_grd) (And.intro (@q_nil) (And.intro (@q_cons) (And.intro (@q_grd) (And.intro (@p_move) (And.intro (@o_move) (And.intro (@q_move) (And.intro (@p_assign) (And.intro (@o_assign) (And.intro (@q_assign) (And.intro (@p_pick) (And.intro (@o_pick) (And.intro (@q_pick) (And.intro (@p_bin) (And.intro (@o_bin) (And.intro (@q_bin) (And.intro (@p_un) (And.intro (@o_un) (And.intro (@q_un) (And.intro (@p_conv) (And.intro (@o_conv) (And.intro (@q_conv) (And.intro (@p_nilC) (And.intro (@o_nilC) (And.intro (@q_nilC) (And.intro (@p_fldA) (And.intro (@o_fldA) (And.intro (@q_fldA) (And.intro (@p_fld) (And.intro (@o_fld) (And.intro (@q_fld) (And.intro (@p_idxA) (And.intro (@o_idxA) (And.intro (@q_idxA) (And.intro (@p_idx) (And.intro (@o_idx) (And.intro (@q_idx) (And.intro (@p_sl) (And.intro (@o_sl) (And.intro (@p_sl3) (And.intro (@o_sl3) (And.intro (@q_sl) (And.intro (@p_ext) (And.intro (@o_ext) (And.intro (@q_ext) (And.intro (@p_mkI) (And.intro (@o_mkI) (And.intro (@q_mkI) (And.intro (@p_mkF) (And.intro (@o_mkF) (And.intro (@q_mkF) (And.intro (@p_asr) (And.intro (@o_asr) (And.intro (@q_asr) (And.intro (@o_load) (And.intro (@o_store) (And.intro (@o_alloc) (And.intro (@o_box) (And.intro (@o_bld) (And.intro (@o_call) (And.intro (@o_len) (And.intro (@o_app) (And.intro (@o_cap) (And.intro (@v_rangeFunc) (And.intro (@o_copy) (And.intro (@o_clear) (And.intro (@o_make) (And.intro (@o_min) (And.intro (@o_max) (And.intro (@q_load) (And.intro (@q_call) (And.intro (@q_len) (And.intro (@e_tmp) (And.intro (@e_const) (And.intro (@e_func) (And.intro (@e_glob) (And.intro (@upd_eq) (And.intro (@upd_ne) (And.intro (@uO_some) (@uO_none)))))))))))))))))))))))))))))))))))))))))))))))))))))))))))))))))))))))))))))))))))))))))))))))))))))))))))))))))))))))))))))))))))))) := And.intro (@h_nil) (And.intro (@h_cons) (And.intro (@h_two) (And.intro (@h_load) (And.intro (@h_len) (And.intro (@h_store) (And.intro (@h_alloc) (And.intro (@h_box) (And.intro (@h_bld) (And.intro (@h_call) (And.intro (@h_app) (And.intro (@h_copy) (And.intro (@h_make) (And.intro (@h_move) (And.intro (@h_assign) (And.intro (@h_pick) (And.intro (@h_bin) (And.intro (@h_un) (And.intro (@h_conv) (And.intro (@h_nilC) (And.intro (@h_fldA) (And.intro (@h_fld) (And.intro (@h_idxA) (And.intro (@h_idx) (And.intro (@h_sl) (And.intro (@h_ext) (And.intro (@h_mkI) (And.intro (@h_mkF) (And.intro (@h_bv) (And.intro (@p_bv) (And.intro (@o_bv) (And.intro (@q_bv) (And.intro (@h_asr) (And.intro (@v_skip) (And.intro (@v_region) (And.intro (@v_draw) (And.intro (@v_seq) (And.intro (@v_block) (And.intro (@v_loop) (And.intro (@v_exit) (And.intro (@v_ret) (And.intro (@s_normal) (And.intro (@s_exit) (And.intro (@s_ret) (And.intro (@b_normal) (And.intro (@b_exit_eq) (And.intro (@b_exit_ne) (And.intro (@b_ret) (And.intro (@k_normal) (And.intro (@k_hit) (And.intro (@k_miss) (And.intro (@k_ret) (And.intro (@ops_nil) (And.intro (@ops_cons) (And.intro (@ops_grd) (And.intro (@q_nil) (And.intro (@q_cons) (And.intro (@q_grd) (And.intro (@p_move) (And.intro (@o_move) (And.intro (@q_move) (And.intro (@p_assign) (And.intro (@o_assign) (And.intro (@q_assign) (And.intro (@p_pick) (And.intro (@o_pick) (And.intro (@q_pick) (And.intro (@p_bin) (And.intro (@o_bin) (And.intro (@q_bin) (And.intro (@p_un) (And.intro (@o_un) (And.intro (@q_un) (And.intro (@p_conv) (And.intro (@o_conv) (And.intro (@q_conv) (And.intro (@p_nilC) (And.intro (@o_nilC) (And.intro (@q_nilC) (And.intro (@p_fldA) (And.intro (@o_fldA) (And.intro (@q_fldA) (And.intro (@p_fld) (And.intro (@o_fld) (And.intro (@q_fld) (And.intro (@p_idxA) (And.intro (@o_idxA) (And.intro (@q_idxA) (And.intro (@p_idx) (And.intro (@o_idx) (And.intro (@q_idx) (And.intro (@p_sl) (And.intro (@o_sl) (And.intro (@p_sl3) (And.intro (@o_sl3) (And.intro (@q_sl) (And.intro (@p_ext) (And.intro (@o_ext) (And.intro (@q_ext) (And.intro (@p_mkI) (And.intro (@o_mkI) (And.intro (@q_mkI) (And.intro (@p_mkF) (And.intro (@o_mkF) (And.intro (@q_mkF) (And.intro (@p_asr) (And.intro (@o_asr) (And.intro (@q_asr) (And.intro (@o_load) (And.intro (@o_store) (And.intro (@o_alloc) (And.intro (@o_box) (And.intro (@o_bld) (And.intro (@o_call) (And.intro (@o_len) (And.intro (@o_app) (And.intro (@o_cap) (And.intro (@v_rangeFunc) (And.intro (@o_copy) (And.intro (@o_clear) (And.intro (@o_make) (And.intro (@o_min) (And.intro (@o_max) (And.intro (@q_load) (And.intro (@q_call) (And.intro (@q_len) (And.intro (@e_tmp) (And.intro (@e_const) (And.intro (@e_func) (And.intro (@e_glob) (And.intro (@upd_eq) (And.intro (@upd_ne) (And.intro (@uO_some) (@uO_none)))))))))))))))))))))))))))))))))))))))))))))))))))))))))))))))))))))))))))))))))))))))))))))))))))))))))))))))))))))))))))))))))))))
set_option maxRecDepth 100000 in
theorem VP : type_of% (And.intro (@hO_plain) (And.intro (@hO_grd) (And.intro (@hG_some) (And.intro (@r_normal) (And.intro (@r_ret) (And.intro (@res0) (And.intro (@res1) (And.intro (@res2) (And.intro (@res3) (And.intro (@res4) (And.intro (@resC) (And.intro (@resC2) (And.intro (@resC4) (And.intro (@grdT_some) (And.intro (@grdQ_some) (And.intro (@binO_some) (And.intro (@binD_int) (And.intro (@binD_string) (And.intro (@binD_bool) (And.intro (@binD_pointer) (And.intro (@binD_slice) (And.intro (@binD_array) (And.intro (@binD_struct) (And.intro (@binD_iface) (And.intro (@eqO_eql) (And.intro (@eqO_neq) (And.intro (@fldAO_struct) (And.intro (@fldA_some) (And.intro (@fldO_struct) (And.intro (@fldV_some) (And.intro (@partO_t) (And.intro (@partO_f) (And.intro (@idxAO_array) (And.intro (@idxAO_slice) (And.intro (@idxO_array) (And.intro (@slO_array) (And.intro (@slO_slice) (And.intro (@sl3O_slice) (And.intro (@bound_some) (And.intro (@bound_none) (And.intro (@convO_int) (And.intro (@cvE_int) (And.intro (@cvH_int) (And.intro (@cvH_slice) (And.intro (@cvH_string) (And.intro (@apE_same) (And.intro (@apE_other) (And.intro (@capO_slice) (And.intro (@cvE_string) (And.intro (@cvE_slice) (And.intro (@cvQ_int) (And.intro (@cvQ_string) (And.intro (@ifO_pointer) (And.intro (@ifO_struct) (And.intro (@ifO_int) (And.intro (@asrO_pointer) (And.intro (@asrV_nil) (And.intro (@asrV_hit) (And.intro (@valV_go) (And.intro (@pickV_t) (And.intro (@pickV_f) (And.intro (@un_not) (And.intro (@un_neg) (And.intro (@un_xor) (And.intro (@lenO_slice) (And.intro (@lenO_string) (And.intro (@lenO_array) (And.intro (@bldO_slice) (And.intro (@parts_nil) (And.intro (@parts_cons) (And.intro (@pok_nil) (And.intro (@pok_cons) (And.intro (@init_nil) (And.intro (@init_cons) (And.intro (@d_some) (And.intro (@d_none) (And.intro (@intV_lit) (And.intro (@boolV_lit) (And.intro (@ptrV_lit) (And.intro (@slcV_lit) (And.intro (@adrV_lit) (And.intro (@aggV_lit) (And.intro (@tupV_lit) (And.intro (@grdV_u) (And.intro (@grdV_bt) (And.intro (@grdV_bf) (And.intro (@cndV_b) (And.intro (@bsplit_t) (And.intro (@bsplit_f) (And.intro (@bsplit_d) (And.intro (@bsplit_n) (And.intro (@add_lit) (And.intro (@sub_lit) (And.intro (@mul_lit) (And.intro (@quo_lit) (And.intro (@rem_lit) (And.intro (@and_lit) (And.intro (@or_lit) (And.intro (@xor_lit) (And.intro (@andNot_lit) (And.intro (@shl_lit) (And.intro (@shr_lit) (And.intro (@eql_lit) (And.intro (@neq_lit) (And.intro (@lss_lit) (And.intro (@leq_lit) (And.intro (@gtr_lit) (And.intro (@geq_lit) (And.intro (@eqb_lit) (And.intro (@eqp_lit) (And.intro (@eqs_lit) (And.intro (@Option.map_some.{0,0}) (And.intro (@Option.bind_some.{0,0}) (And.intro (@List.map_cons.{0,0}) (And.intro (@List.map_nil.{0,0}) (And.intro (@List.map_toArray.{0,0}) (And.intro (@List.getElem?_cons_zero.{0}) (And.intro (@List.getElem?_cons_succ.{0}) (And.intro (@List.getElem?_toArray.{0}) (And.intro (@Option.some.injEq.{0}) (And.intro (@exists_eq_left'.{1}) (And.intro (@not_true_eq_false) (And.intro (@not_false_eq_true) (And.intro (@false_implies) (And.intro (@Classical.not_not) (And.intro (@true_and) (And.intro (@and_true) (And.intro (@true_implies) (And.intro (@ne_eq.{1}) (And.intro (@not_false_eq_true) (And.intro (@Bool.false_eq_true) (And.intro (@Bool.not_true) (And.intro (@Bool.not_false) (And.intro (@Int.cast_ofNat_Int) (And.intro (@decide_true) (And.intro (@decide_false) (And.intro (@decide_eq_true_eq) (And.intro (@Nat.mul_one) (And.intro (@Nat.one_mul) (And.intro (@Nat.zero_add) (And.intro (@Nat.add_zero) (And.intro (@List.append_nil.{0}) (And.intro (@List.nil_append.{0}) (And.intro (@List.cons_append.{0}) (And.intro (@List.size_toArray.{0}) (And.intro (@List.length_replicate.{0}) (And.intro (@Value.int.injEq) (And.intro (@Value.bool.injEq) (And.intro (@cells_agg) (And.intro (@cells_int) (And.intro (@cells_bool) (And.intro (@cells_sl) (And.intro (@cells_ptr) (And.intro (@Int.toNat_natCast) (@List.toList_toArray.{0}))))))))))))))))))))))))))))))))))))))))))))))))))))))))))))))))))))))))))))))))))))))))))))))))))))))))))))))))))))))))))))))))))))))))))))))))))))))))))) := And.intro (@hO_plain) (And.intro (@hO_grd) (And.intro (@hG_some) (And.intro (@r_normal) (And.intro (@r_ret) (And.intro (@res0) (And.intro (@res1) (And.intro (@res2) (And.intro (@res3) (And.intro (@res4) (And.intro (@resC) (And.intro (@resC2) (And.intro (@resC4) (And.intro (@grdT_some) (And.intro (@grdQ_some) (And.intro (@binO_some) (And.intro (@binD_int) (And.intro (@binD_string) (And.intro (@binD_bool) (And.intro (@binD_pointer) (And.intro (@binD_slice) (And.intro (@binD_array) (And.intro (@binD_struct) (And.intro (@binD_iface) (And.intro (@eqO_eql) (And.intro (@eqO_neq) (And.intro (@fldAO_struct) (And.intro (@fldA_some) (And.intro (@fldO_struct) (And.intro (@fldV_some) (And.intro (@partO_t) (And.intro (@partO_f) (And.intro (@idxAO_array) (And.intro (@idxAO_slice) (And.intro (@idxO_array) (And.intro (@slO_array) (And.intro (@slO_slice) (And.intro (@sl3O_slice) (And.intro (@bound_some) (And.intro (@bound_none) (And.intro (@convO_int) (And.intro (@cvE_int) (And.intro (@cvH_int) (And.intro (@cvH_slice) (And.intro (@cvH_string) (And.intro (@apE_same) (And.intro (@apE_other) (And.intro (@capO_slice) (And.intro (@cvE_string) (And.intro (@cvE_slice) (And.intro (@cvQ_int) (And.intro (@cvQ_string) (And.intro (@ifO_pointer) (And.intro (@ifO_struct) (And.intro (@ifO_int) (And.intro (@asrO_pointer) (And.intro (@asrV_nil) (And.intro (@asrV_hit) (And.intro (@valV_go) (And.intro (@pickV_t) (And.intro (@pickV_f) (And.intro (@un_not) (And.intro (@un_neg) (And.intro (@un_xor) (And.intro (@lenO_slice) (And.intro (@lenO_string) (And.intro (@lenO_array) (And.intro (@bldO_slice) (And.intro (@parts_nil) (And.intro (@parts_cons) (And.intro (@pok_nil) (And.intro (@pok_cons) (And.intro (@init_nil) (And.intro (@init_cons) (And.intro (@d_some) (And.intro (@d_none) (And.intro (@intV_lit) (And.intro (@boolV_lit) (And.intro (@ptrV_lit) (And.intro (@slcV_lit) (And.intro (@adrV_lit) (And.intro (@aggV_lit) (And.intro (@tupV_lit) (And.intro (@grdV_u) (And.intro (@grdV_bt) (And.intro (@grdV_bf) (And.intro (@cndV_b) (And.intro (@bsplit_t) (And.intro (@bsplit_f) (And.intro (@bsplit_d) (And.intro (@bsplit_n) (And.intro (@add_lit) (And.intro (@sub_lit) (And.intro (@mul_lit) (And.intro (@quo_lit) (And.intro (@rem_lit) (And.intro (@and_lit) (And.intro (@or_lit) (And.intro (@xor_lit) (And.intro (@andNot_lit) (And.intro (@shl_lit) (And.intro (@shr_lit) (And.intro (@eql_lit) (And.intro (@neq_lit) (And.intro (@lss_lit) (And.intro (@leq_lit) (And.intro (@gtr_lit) (And.intro (@geq_lit) (And.intro (@eqb_lit) (And.intro (@eqp_lit) (And.intro (@eqs_lit) (And.intro (@Option.map_some.{0,0}) (And.intro (@Option.bind_some.{0,0}) (And.intro (@List.map_cons.{0,0}) (And.intro (@List.map_nil.{0,0}) (And.intro (@List.map_toArray.{0,0}) (And.intro (@List.getElem?_cons_zero.{0}) (And.intro (@List.getElem?_cons_succ.{0}) (And.intro (@List.getElem?_toArray.{0}) (And.intro (@Option.some.injEq.{0}) (And.intro (@exists_eq_left'.{1}) (And.intro (@not_true_eq_false) (And.intro (@not_false_eq_true) (And.intro (@false_implies) (And.intro (@Classical.not_not) (And.intro (@true_and) (And.intro (@and_true) (And.intro (@true_implies) (And.intro (@ne_eq.{1}) (And.intro (@not_false_eq_true) (And.intro (@Bool.false_eq_true) (And.intro (@Bool.not_true) (And.intro (@Bool.not_false) (And.intro (@Int.cast_ofNat_Int) (And.intro (@decide_true) (And.intro (@decide_false) (And.intro (@decide_eq_true_eq) (And.intro (@Nat.mul_one) (And.intro (@Nat.one_mul) (And.intro (@Nat.zero_add) (And.intro (@Nat.add_zero) (And.intro (@List.append_nil.{0}) (And.intro (@List.nil_append.{0}) (And.intro (@List.cons_append.{0}) (And.intro (@List.size_toArray.{0}) (And.intro (@List.length_replicate.{0}) (And.intro (@Value.int.injEq) (And.intro (@Value.bool.injEq) (And.intro (@cells_agg) (And.intro (@cells_int) (And.intro (@cells_bool) (And.intro (@cells_sl) (And.intro (@cells_ptr) (And.intro (@Int.toNat_natCast) (@List.toList_toArray.{0}))))))))))))))))))))))))))))))))))))))))))))))))))))))))))))))))))))))))))))))))))))))))))))))))))))))))))))))))))))))))))))))))))))))))))))))))))))))))))
set_option maxRecDepth 100000 in
theorem VT : type_of% (And.intro (@Tryz.underlying0) (And.intro (@Tryz.underlying1) (And.intro (@Tryz.underlying2) (And.intro (@Tryz.underlying3) (And.intro (@Tryz.underlying4) (And.intro (@Tryz.underlying5) (And.intro (@Tryz.underlying6) (And.intro (@Tryz.underlying7) (And.intro (@Tryz.underlying8) (And.intro (@Tryz.underlying9) (And.intro (@Tryz.underlying10) (And.intro (@Tryz.underlying11) (And.intro (@Tryz.underlying12) (And.intro (@Tryz.underlying13) (And.intro (@Tryz.underlying14) (And.intro (@Tryz.underlying15) (And.intro (@Tryz.underlying16) (And.intro (@Tryz.underlying17) (And.intro (@Tryz.underlying18) (And.intro (@Tryz.underlying19) (And.intro (@Tryz.underlying20) (And.intro (@Tryz.underlying21) (And.intro (@Tryz.underlying22) (And.intro (@Tryz.underlying23) (And.intro (@Tryz.underlying24) (And.intro (@Tryz.underlying25) (And.intro (@Tryz.underlying26) (And.intro (@Tryz.underlying27) (And.intro (@Tryz.underlying28) (And.intro (@Tryz.underlying29) (And.intro (@Tryz.underlying30) (And.intro (@Tryz.underlying31) (And.intro (@Tryz.underlying32) (And.intro (@Tryz.underlying33) (And.intro (@Tryz.underlying34) (And.intro (@Tryz.underlying35) (And.intro (@Tryz.underlying36) (And.intro (@Tryz.underlying37) (And.intro (@Tryz.underlying38) (And.intro (@Tryz.underlying39) (And.intro (@Tryz.underlying40) (And.intro (@Tryz.underlying41) (And.intro (@Tryz.underlying42) (And.intro (@Tryz.underlying43) (And.intro (@Tryz.underlying44) (And.intro (@Tryz.underlying45) (And.intro (@Tryz.underlying46) (And.intro (@Tryz.underlying47) (And.intro (@Tryz.underlying48) (And.intro (@Tryz.underlying49) (And.intro (@Tryz.underlying50) (And.intro (@Tryz.underlying51) (And.intro (@Tryz.underlying52) (And.intro (@Tryz.underlying53) (And.intro (@Tryz.underlying54) (And.intro (@Tryz.underlying55) (And.intro (@Tryz.underlying56) (And.intro (@Tryz.underlying57) (And.intro (@Tryz.underlying58) (And.intro (@Tryz.underlying59) (And.intro (@Tryz.underlying60) (And.intro (@Tryz.underlying61) (And.intro (@Tryz.underlying62) (And.intro (@Tryz.underlying63) (And.intro (@Tryz.underlying64) (And.intro (@Tryz.underlying65) (And.intro (@Tryz.underlying66) (And.intro (@Tryz.underlying67) (And.intro (@Tryz.underlying68) (And.intro (@Tryz.underlying69) (And.intro (@Tryz.underlying70) (And.intro (@Tryz.underlying71) (And.intro (@Tryz.underlying72) (And.intro (@Tryz.underlying73) (And.intro (@Tryz.underlying74) (And.intro (@Tryz.underlying75) (And.intro (@Tryz.underlying76) (And.intro (@Tryz.underlying77) (And.intro (@Tryz.underlying78) (And.intro (@Tryz.underlying79) (And.intro (@Tryz.underlying80) (And.intro (@Tryz.underlying81) (And.intro (@Tryz.underlying82) (And.intro (@Tryz.underlying83) (And.intro (@Tryz.underlying84) (And.intro (@Tryz.underlying85) (And.intro (@Tryz.underlying86) (And.intro (@Tryz.underlying87) (And.intro (@Tryz.underlying88) (And.intro (@Tryz.underlying89) (And.intro (@Tryz.underlying90) (And.intro (@Tryz.underlying91) (And.intro (@Tryz.underlying92) (And.intro (@Tryz.underlying93) (And.intro (@Tryz.underlying94) (And.intro (@Tryz.underlying95) (And.intro (@Tryz.underlying96) (And.intro (@Tryz.underlying97) (And.intro (@Tryz.underlying98) (And.intro (@Tryz.underlying99) (And.intro (@Tryz.underlying100) (And.intro (@Tryz.underlying101) (And.intro (@Tryz.underlying102) (And.intro (@Tryz.underlying103) (And.intro (@Tryz.underlying104) (And.intro (@Tryz.underlying105) (And.intro (@Tryz.underlying106) (And.intro (@Tryz.underlying107) (And.intro (@Tryz.underlying108) (And.intro (@Tryz.underlying109) (And.intro (@Tryz.underlying110) (And.intro (@Tryz.underlying111) (And.intro (@Tryz.underlying112) (And.intro (@Tryz.underlying113) (And.intro (@Tryz.underlying114) (And.intro (@Tryz.underlying115) (And.intro (@Tryz.underlying116) (And.intro (@Tryz.underlying117) (And.intro (@Tryz.underlying118) (And.intro (@Tryz.underlying119) (And.intro (@Tryz.underlying120) (And.intro (@Tryz.underlying121) (And.intro (@Tryz.underlying122) (And.intro (@Tryz.underlying123) (And.intro (@Tryz.underlying124) (And.intro (@Tryz.underlying125) (And.intro (@Tryz.underlying126) (And.intro (@Tryz.underlying127) (And.intro (@Tryz.underlying128) (And.intro (@Tryz.underlying129) (And.intro (@Tryz.underlying130) (And.intro (@Tryz.underlying131) (And.intro (@Tryz.underlying132) (And.intro (@Tryz.underlying133) (And.intro (@Tryz.underlying134) (And.intro (@Tryz.underlying135) (And.intro (@Tryz.underlying136) (And.intro (@Tryz.underlying137) (And.intro (@Tryz.underlying138) (And.intro (@Tryz.underlying139) (And.intro (@Tryz.underlying140) (And.intro (@Tryz.underlying141) (And.intro (@Tryz.underlying142) (And.intro (@Tryz.underlying143) (And.intro (@Tryz.underlying144) (And.intro (@Tryz.underlying145) (And.intro (@Tryz.underlying146) (And.intro (@Tryz.underlying147) (And.intro (@Tryz.underlying148) (And.intro (@Tryz.underlying149) (And.intro (@Tryz.underlying150) (And.intro (@Tryz.underlying151) (And.intro (@Tryz.underlying152) (And.intro (@Tryz.underlying153) (And.intro (@Tryz.underlying154) (And.intro (@Tryz.underlying155) (And.intro (@Tryz.underlying156) (And.intro (@Tryz.underlying157) (And.intro (@Tryz.underlying158) (And.intro (@Tryz.underlying159) (And.intro (@Tryz.underlying160) (And.intro (@Tryz.underlying161) (And.intro (@Tryz.underlying162) (And.intro (@Tryz.underlying163) (And.intro (@Tryz.underlying164) (And.intro (@Tryz.underlying165) (And.intro (@Tryz.underlying166) (And.intro (@Tryz.underlying167) (And.intro (@Tryz.underlying168) (And.intro (@Tryz.underlying169) (And.intro (@Tryz.underlying170) (And.intro (@Tryz.underlying171) (And.intro (@Tryz.underlying172) (And.intro (@Tryz.underlying173) (And.intro (@Tryz.underlying174) (And.intro (@Tryz.underlying175) (And.intro (@Tryz.underlying176) (And.intro (@Tryz.underlying177) (And.intro (@Tryz.underlying178) (And.intro (@Tryz.underlying179) (And.intro (@Tryz.underlying180) (And.intro (@Tryz.underlying181) (And.intro (@Tryz.underlying182) (And.intro (@Tryz.underlying183) (And.intro (@Tryz.underlying184) (And.intro (@Tryz.underlying185) (And.intro (@Tryz.underlying186) (And.intro (@Tryz.underlying187) (And.intro (@Tryz.underlying188) (And.intro (@Tryz.underlying189) (And.intro (@Tryz.underlying190) (And.intro (@Tryz.underlying191) (And.intro (@Tryz.underlying192) (And.intro (@Tryz.underlying193) (And.intro (@Tryz.underlying194) (And.intro (@Tryz.underlying195) (And.intro (@Tryz.underlying196) (And.intro (@Tryz.underlying197) (And.intro (@Tryz.underlying198) (And.intro (@Tryz.underlying199) (And.intro (@Tryz.underlying200) (And.intro (@Tryz.underlying201) (And.intro (@Tryz.underlying202) (And.intro (@Tryz.underlying203) (And.intro (@Tryz.underlying204) (And.intro (@Tryz.underlying205) (And.intro (@Tryz.underlying206) (And.intro (@Tryz.underlying207) (And.intro (@Tryz.underlying208) (And.intro (@Tryz.underlying209) (And.intro (@Tryz.underlying210) (And.intro (@Tryz.underlying211) (And.intro (@Tryz.underlying212) (And.intro (@Tryz.underlying213) (And.intro (@Tryz.underlying214) (And.intro (@Tryz.underlying215) (And.intro (@Tryz.underlying216) (And.intro (@Tryz.underlying217) (And.intro (@Tryz.underlying218) (And.intro (@Tryz.underlying219) (And.intro (@Tryz.underlying220) (And.intro (@Tryz.underlying221) (And.intro (@Tryz.underlying222) (And.intro (@Tryz.underlying223) (And.intro (@Tryz.underlying224) (And.intro (@Tryz.underlying225) (And.intro (@Tryz.underlying226) (And.intro (@Tryz.underlying227) (And.intro (@Tryz.underlying228) (And.intro (@Tryz.underlying229) (And.intro (@Tryz.underlying230) (And.intro (@Tryz.underlying231) (And.intro (@Tryz.underlying232) (And.intro (@Tryz.underlying233) (And.intro (@Tryz.underlying234) (And.intro (@Tryz.underlying235) (And.intro (@Tryz.underlying236) (And.intro (@Tryz.underlying237) (And.intro (@Tryz.underlying238) (And.intro (@Tryz.underlying239) (And.intro (@Tryz.underlying240) (And.intro (@Tryz.underlying241) (And.intro (@Tryz.underlying242) (And.intro (@Tryz.underlying243) (And.intro (@Tryz.underlying244) (And.intro (@Tryz.underlying245) (And.intro (@Tryz.underlying246) (And.intro (@Tryz.underlying247) (And.intro (@Tryz.underlying248) (And.intro (@Tryz.underlying249) (And.intro (@Tryz.underlying250) (And.intro (@Tryz.underlying251) (And.intro (@Tryz.underlying252) (And.intro (@Tryz.underlying253) (And.intro (@Tryz.underlying254) (And.intro (@Tryz.underlying255) (And.intro (@Tryz.underlying256) (And.intro (@Tryz.underlying257) (And.intro (@Tryz.underlying258) (And.intro (@Tryz.underlying259) (And.intro (@Tryz.underlying260) (And.intro (@Tryz.underlying261) (And.intro (@Tryz.underlying262) (And.intro (@Tryz.underlying263) (And.intro (@Tryz.underlying264) (And.intro (@Tryz.underlying265) (And.intro (@Tryz.underlying266) (And.intro (@Tryz.underlying267) (And.intro (@c0) (And.intro (@c1) (And.intro (@c2) (And.intro (@c3) (And.intro (@c4) (And.intro (@c5) (And.intro (@c6) (And.intro (@c7) (And.intro (@c8) (And.intro (@c9) (And.intro (@c10) (And.intro (@c11) (And.intro (@c12) (And.intro (@c13) (And.intro (@c14) (And.intro (@c15) (And.intro (@c16) (And.intro (@c17) (And.intro (@c18) (And.intro (@c19) (And.intro (@c20) (And.intro (@c21) (And.intro (@c22) (And.intro (@c23) (And.intro (@c24) (And.intro (@c25) (And.intro (@c26) (And.intro (@c27) (And.intro (@c28) (And.intro (@c29) (And.intro (@c30) (And.intro (@c31) (And.intro (@c32) (And.intro (@c33) (And.intro (@c34) (And.intro (@c35) (And.intro (@c36) (And.intro (@c37) (And.intro (@c38) (And.intro (@c39) (And.intro (@c40) (And.intro (@c41) (And.intro (@c42) (And.intro (@c43) (And.intro (@c44) (And.intro (@c45) (And.intro (@c46) (And.intro (@c47) (And.intro (@c48) (And.intro (@c49) (And.intro (@c50) (And.intro (@c51) (And.intro (@c52) (And.intro (@c53) (And.intro (@c54) (And.intro (@c55) (And.intro (@c56) (And.intro (@c57) (And.intro (@c58) (And.intro (@c59) (And.intro (@c60) (And.intro (@c61) (And.intro (@c62) (And.intro (@c63) (And.intro (@c64) (And.intro (@c65) (And.intro (@c66) (And.intro (@c67) (And.intro (@c68) (And.intro (@c69) (And.intro (@c70) (And.intro (@c71) (And.intro (@c72) (And.intro (@c73) (And.intro (@c74) (And.intro (@c75) (And.intro (@c76) (And.intro (@c77) (And.intro (@c78) (And.intro (@c79) (And.intro (@c80) (And.intro (@c81) (And.intro (@c82) (And.intro (@c83) (And.intro (@c84) (And.intro (@c85) (And.intro (@c86) (And.intro (@c87) (And.intro (@c88) (And.intro (@c89) (And.intro (@c90) (And.intro (@c91) (And.intro (@c92) (And.intro (@c93) (And.intro (@c94) (And.intro (@c95) (And.intro (@c96) (And.intro (@c97) (And.intro (@c98) (And.intro (@c99) (And.intro (@c100) (And.intro (@c101) (And.intro (@c102) (And.intro (@c103) (And.intro (@c104) (And.intro (@c105) (And.intro (@c106) (And.intro (@c107) (And.intro (@c108) (And.intro (@c109) (And.intro (@c110) (And.intro (@c111) (And.intro (@c112) (And.intro (@c113) (And.intro (@c114) (And.intro (@c115) (And.intro (@c116) (And.intro (@c117) (And.intro (@c118) (And.intro (@c119) (And.intro (@c120) (And.intro (@c121) (And.intro (@c122) (And.intro (@c123) (And.intro (@c124) (And.intro (@c125) (And.intro (@c126) (And.intro (@c127) (And.intro (@c128) (And.intro (@c129) (And.intro (@c130) (And.intro (@c131) (And.intro (@c132) (And.intro (@c133) (And.intro (@c134) (And.intro (@c135) (And.intro (@c136) (And.intro (@c137) (And.intro (@c138) (And.intro (@c139) (And.intro (@c140) (And.intro (@c141) (And.intro (@c142) (And.intro (@c143) (And.intro (@c144) (And.intro (@c145) (And.intro (@c146) (And.intro (@c147) (And.intro (@c148) (And.intro (@c149) (And.intro (@c150) (And.intro (@c151) (And.intro (@c152) (And.intro (@c153) (And.intro (@c154) (And.intro (@c155) (And.intro (@c156) (And.intro (@c157) (And.intro (@c158) (And.intro (@c159) (And.intro (@c160) (And.intro (@c161) (And.intro (@c162) (And.intro (@c163) (And.intro (@c164) (And.intro (@c165) (And.intro (@c166) (And.intro (@c167) (And.intro (@c168) (And.intro (@c169) (And.intro (@c170) (And.intro (@c171) (And.intro (@c172) (And.intro (@c173) (And.intro (@c174) (And.intro (@c175) (And.intro (@c176) (And.intro (@c177) (And.intro (@c178) (And.intro (@c179) (And.intro (@c180) (And.intro (@c181) (And.intro (@c182) (And.intro (@c183) (And.intro (@c184) (And.intro (@c185) (And.intro (@c186) (And.intro (@c187) (And.intro (@c188) (And.intro (@c189) (And.intro (@c190) (And.intro (@c191) (And.intro (@c192) (And.intro (@c193) (And.intro (@c194) (And.intro (@c195) (And.intro (@c196) (And.intro (@c197) (And.intro (@c198) (And.intro (@c199) (And.intro (@c200) (And.intro (@c201) (And.intro (@c202) (And.intro (@c203) (And.intro (@c204) (And.intro (@c205) (And.intro (@c206) (And.intro (@c207) (And.intro (@c208) (And.intro (@c209) (And.intro (@c210) (And.intro (@c211) (And.intro (@c212) (And.intro (@c213) (And.intro (@c214) (And.intro (@c215) (And.intro (@c216) (And.intro (@c217) (And.intro (@c218) (And.intro (@c219) (And.intro (@c220) (And.intro (@c221) (And.intro (@c222) (And.intro (@c223) (And.intro (@c224) (And.intro (@c225) (And.intro (@c226) (And.intro (@c227) (And.intro (@c228) (And.intro (@c229) (And.intro (@c230) (And.intro (@c231) (And.intro (@c232) (And.intro (@c233) (And.intro (@c234) (And.intro (@c235) (And.intro (@c236) (And.intro (@c237) (And.intro (@c238) (And.intro (@c239) (And.intro (@c240) (And.intro (@c241) (And.intro (@c242) (And.intro (@c243) (And.intro (@c244) (And.intro (@c245) (And.intro (@c246) (And.intro (@c247) (And.intro (@c248) (And.intro (@c249) (And.intro (@c250) (And.intro (@c251) (And.intro (@c252) (And.intro (@c253) (And.intro (@c254) (And.intro (@c255) (And.intro (@c256) (And.intro (@c257) (And.intro (@c258) (And.intro (@c259) (And.intro (@c260) (And.intro (@c261) (And.intro (@c262) (And.intro (@c263) (And.intro (@c264) (And.intro (@c265) (And.intro (@c266) (And.intro (@c267) (And.intro (@z1) (And.intro (@z2) (And.intro (@z3) (And.intro (@z4) (And.intro (@z5) (And.intro (@z6) (And.intro (@z7) (And.intro (@z8) (And.intro (@z9) (And.intro (@z10) (And.intro (@z11) (And.intro (@z12) (And.intro (@z13) (And.intro (@z14) (And.intro (@z15) (And.intro (@z16) (And.intro (@z17) (And.intro (@z18) (And.intro (@z19) (And.intro (@z20) (And.intro (@z21) (And.intro (@z22) (And.intro (@z23) (And.intro (@z24) (And.intro (@z25) (And.intro (@z26) (And.intro (@z27) (And.intro (@z28) (And.intro (@z29) (And.intro (@z30) (And.intro (@z31) (And.intro (@z33) (And.intro (@z35) (And.intro (@z36) (And.intro (@z38) (And.intro (@z39) (And.intro (@z41) (And.intro (@z43) (And.intro (@z44) (And.intro (@z45) (And.intro (@z46) (And.intro (@z47) (And.intro (@z48) (And.intro (@z49) (And.intro (@z50) (And.intro (@z51) (And.intro (@z52) (And.intro (@z53) (And.intro (@z54) (And.intro (@z55) (And.intro (@z56) (And.intro (@z58) (And.intro (@z59) (And.intro (@z61) (And.intro (@z63) (And.intro (@z64) (And.intro (@z65) (And.intro (@z67) (And.intro (@z68) (And.intro (@z69) (And.intro (@z70) (And.intro (@z71) (And.intro (@z72) (And.intro (@z73) (And.intro (@z75) (And.intro (@z76) (And.intro (@z77) (And.intro (@z79) (And.intro (@z80) (And.intro (@z81) (And.intro (@z82) (And.intro (@z84) (And.intro (@z85) (And.intro (@z86) (And.intro (@z87) (And.intro (@z88) (And.intro (@z89) (And.intro (@z90) (And.intro (@z91) (And.intro (@z92) (And.intro (@z94) (And.intro (@z95) (And.intro (@z97) (And.intro (@z98) (And.intro (@z99) (And.intro (@z100) (And.intro (@z101) (And.intro (@z102) (And.intro (@z104) (And.intro (@z105) (And.intro (@z106) (And.intro (@z107) (And.intro (@z108) (And.intro (@z109) (And.intro (@z110) (And.intro (@z111) (And.intro (@z112) (And.intro (@z114) (And.intro (@z115) (And.intro (@z116) (And.intro (@z117) (And.intro (@z118) (And.intro (@z119) (And.intro (@z120) (And.intro (@z121) (And.intro (@z122) (And.intro (@z124) (And.intro (@z125) (And.intro (@z126) (And.intro (@z127) (And.intro (@z128) (And.intro (@z129) (And.intro (@z130) (And.intro (@z131) (And.intro (@z132) (And.intro (@z133) (And.intro (@z134) (And.intro (@z135) (And.intro (@z136) (And.intro (@z137) (And.intro (@z138) (And.intro (@z139) (And.intro (@z140) (And.intro (@z141) (And.intro (@z142) (And.intro (@z143) (And.intro (@z144) (And.intro (@z145) (And.intro (@z146) (And.intro (@z147) (And.intro (@z148) (And.intro (@z149) (And.intro (@z150) (And.intro (@z151) (And.intro (@z152) (And.intro (@z153) (And.intro (@z154) (And.intro (@z155) (And.intro (@z156) (And.intro (@z158) (And.intro (@z159) (And.intro (@z161) (And.intro (@z162) (And.intro (@z163) (And.intro (@z165) (And.intro (@z166) (And.intro (@z167) (And.intro (@z168) (And.intro (@z169) (And.intro (@z170) (And.intro (@z171) (And.intro (@z172) (And.intro (@z173) (And.intro (@z174) (And.intro (@z175) (And.intro (@z176) (And.intro (@z177) (And.intro (@z178) (And.intro (@z179) (And.intro (@z180) (And.intro (@z181) (And.intro (@z182) (And.intro (@z183) (And.intro (@z184) (And.intro (@z185) (And.intro (@z186) (And.intro (@z187) (And.intro (@z188) (And.intro (@z189) (And.intro (@z190) (And.intro (@z191) (And.intro (@z192) (And.intro (@z193) (And.intro (@z194) (And.intro (@z195) (And.intro (@z196) (And.intro (@z197) (And.intro (@z198) (And.intro (@z199) (And.intro (@z200) (And.intro (@z201) (And.intro (@z202) (And.intro (@z203) (And.intro (@z204) (And.intro (@z206) (And.intro (@z207) (And.intro (@z208) (And.intro (@z209) (And.intro (@z210) (And.intro (@z211) (And.intro (@z212) (And.intro (@z213) (And.intro (@z214) (And.intro (@z215) (And.intro (@z216) (And.intro (@z218) (And.intro (@z219) (And.intro (@z220) (And.intro (@z221) (And.intro (@z222) (And.intro (@z223) (And.intro (@z224) (And.intro (@z225) (And.intro (@z226) (And.intro (@z227) (And.intro (@z228) (And.intro (@z229) (And.intro (@z230) (And.intro (@z231) (And.intro (@z232) (And.intro (@z233) (And.intro (@z234) (And.intro (@z235) (And.intro (@z236) (And.intro (@z237) (And.intro (@z238) (And.intro (@z239) (And.intro (@z240) (And.intro (@z241) (And.intro (@z242) (And.intro (@z243) (And.intro (@z244) (And.intro (@z245) (And.intro (@z246) (And.intro (@z247) (And.intro (@z248) (And.intro (@z249) (And.intro (@z250) (And.intro (@z251) (And.intro (@z252) (And.intro (@z253) (And.intro (@z254) (And.intro (@z255) (And.intro (@z256) (And.intro (@z257) (And.intro (@z258) (And.intro (@z259) (And.intro (@z260) (And.intro (@z261) (And.intro (@z262) (And.intro (@z263) (And.intro (@z264) (And.intro (@z265) (And.intro (@z266) (@z267))))))))))))))))))))))))))))))))))))))))))))))))))))))))))))))))))))))))))))))))))))))))))))))))))))))))))))))))))))))))))))))))))))))))))))))))))))))))))))))))))))))))))))))))))))))))))))))))))))))))))))))))))))))))))))))))))))))))))))))))))))))))))))))))))))))))))))))))))))))))))))))))))))))))))))))))))))))))))))))))))))))))))))))))))))))))))))))))))))))))))))))))))))))))))))))))))))))))))))))))))))))))))))))))))))))))))))))))))))))))))))))))))))))))))))))))))))))))))))))))))))))))))))))))))))))))))))))))))))))))))))))))))))))))))))))))))))))))))))))))))))))))))))))))))))))))))))))))))))))))))))))))))))))))))))))))))))))))))))))))))))))))))))))))))))))))))))))))))))))))))))))))))))))))))))))))))))))))))))))))))))))))))))))))))))))))))))))))))))))))))))))))))))))))))))) := And.intro (@Tryz.underlying0) (And.intro (@Tryz.underlying1) (And.intro (@Tryz.underlying2) (And.intro (@Tryz.underlying3) (And.intro (@Tryz.underlying4) (And.intro (@Tryz.underlying5) (And.intro (@Tryz.underlying6) (And.intro (@Tryz.underlying7) (And.intro (@Tryz.underlying8) (And.intro (@Tryz.underlying9) (And.intro (@Tryz.underlying10) (And.intro (@Tryz.underlying11) (And.intro (@Tryz.underlying12) (And.intro (@Tryz.underlying13) (And.intro (@Tryz.underlying14) (And.intro (@Tryz.underlying15) (And.intro (@Tryz.underlying16) (And.intro (@Tryz.underlying17) (And.intro (@Tryz.underlying18) (And.intro (@Tryz.underlying19) (And.intro (@Tryz.underlying20) (And.intro (@Tryz.underlying21) (And.intro (@Tryz.underlying22) (And.intro (@Tryz.underlying23) (And.intro (@Tryz.underlying24) (And.intro (@Tryz.underlying25) (And.intro (@Tryz.underlying26) (And.intro (@Tryz.underlying27) (And.intro (@Tryz.underlying28) (And.intro (@Tryz.underlying29) (And.intro (@Tryz.underlying30) (And.intro (@Tryz.underlying31) (And.intro (@Tryz.underlying32) (And.intro (@Tryz.underlying33) (And.intro (@Tryz.underlying34) (And.intro (@Tryz.underlying35) (And.intro (@Tryz.underlying36) (And.intro (@Tryz.underlying37) (And.intro (@Tryz.underlying38) (And.intro (@Tryz.underlying39) (And.intro (@Tryz.underlying40) (And.intro (@Tryz.underlying41) (And.intro (@Tryz.underlying42) (And.intro (@Tryz.underlying43) (And.intro (@Tryz.underlying44) (And.intro (@Tryz.underlying45) (And.intro (@Tryz.underlying46) (And.intro (@Tryz.underlying47) (And.intro (@Tryz.underlying48) (And.intro (@Tryz.underlying49) (And.intro (@Tryz.underlying50) (And.intro (@Tryz.underlying51) (And.intro (@Tryz.underlying52) (And.intro (@Tryz.underlying53) (And.intro (@Tryz.underlying54) (And.intro (@Tryz.underlying55) (And.intro (@Tryz.underlying56) (And.intro (@Tryz.underlying57) (And.intro (@Tryz.underlying58) (And.intro (@Tryz.underlying59) (And.intro (@Tryz.underlying60) (And.intro (@Tryz.underlying61) (And.intro (@Tryz.underlying62) (And.intro (@Tryz.underlying63) (And.intro (@Tryz.underlying64) (And.intro (@Tryz.underlying65) (And.intro (@Tryz.underlying66) (And.intro (@Tryz.underlying67) (And.intro (@Tryz.underlying68) (And.intro (@Tryz.underlying69) (And.intro (@Tryz.underlying70) (And.intro (@Tryz.underlying71) (And.intro (@Tryz.underlying72) (And.intro (@Tryz.underlying73) (And.intro (@Tryz.underlying74) (And.intro (@Tryz.underlying75) (And.intro (@Tryz.underlying76) (And.intro (@Tryz.underlying77) (And.intro (@Tryz.underlying78) (And.intro (@Tryz.underlying79) (And.intro (@Tryz.underlying80) (And.intro (@Tryz.underlying81) (And.intro (@Tryz.underlying82) (And.intro (@Tryz.underlying83) (And.intro (@Tryz.underlying84) (And.intro (@Tryz.underlying85) (And.intro (@Tryz.underlying86) (And.intro (@Tryz.underlying87) (And.intro (@Tryz.underlying88) (And.intro (@Tryz.underlying89) (And.intro (@Tryz.underlying90) (And.intro (@Tryz.underlying91) (And.intro (@Tryz.underlying92) (And.intro (@Tryz.underlying93) (And.intro (@Tryz.underlying94) (And.intro (@Tryz.underlying95) (And.intro (@Tryz.underlying96) (And.intro (@Tryz.underlying97) (And.intro (@Tryz.underlying98) (And.intro (@Tryz.underlying99) (And.intro (@Tryz.underlying100) (And.intro (@Tryz.underlying101) (And.intro (@Tryz.underlying102) (And.intro (@Tryz.underlying103) (And.intro (@Tryz.underlying104) (And.intro (@Tryz.underlying105) (And.intro (@Tryz.underlying106) (And.intro (@Tryz.underlying107) (And.intro (@Tryz.underlying108) (And.intro (@Tryz.underlying109) (And.intro (@Tryz.underlying110) (And.intro (@Tryz.underlying111) (And.intro (@Tryz.underlying112) (And.intro (@Tryz.underlying113) (And.intro (@Tryz.underlying114) (And.intro (@Tryz.underlying115) (And.intro (@Tryz.underlying116) (And.intro (@Tryz.underlying117) (And.intro (@Tryz.underlying118) (And.intro (@Tryz.underlying119) (And.intro (@Tryz.underlying120) (And.intro (@Tryz.underlying121) (And.intro (@Tryz.underlying122) (And.intro (@Tryz.underlying123) (And.intro (@Tryz.underlying124) (And.intro (@Tryz.underlying125) (And.intro (@Tryz.underlying126) (And.intro (@Tryz.underlying127) (And.intro (@Tryz.underlying128) (And.intro (@Tryz.underlying129) (And.intro (@Tryz.underlying130) (And.intro (@Tryz.underlying131) (And.intro (@Tryz.underlying132) (And.intro (@Tryz.underlying133) (And.intro (@Tryz.underlying134) (And.intro (@Tryz.underlying135) (And.intro (@Tryz.underlying136) (And.intro (@Tryz.underlying137) (And.intro (@Tryz.underlying138) (And.intro (@Tryz.underlying139) (And.intro (@Tryz.underlying140) (And.intro (@Tryz.underlying141) (And.intro (@Tryz.underlying142) (And.intro (@Tryz.underlying143) (And.intro (@Tryz.underlying144) (And.intro (@Tryz.underlying145) (And.intro (@Tryz.underlying146) (And.intro (@Tryz.underlying147) (And.intro (@Tryz.underlying148) (And.intro (@Tryz.underlying149) (And.intro (@Tryz.underlying150) (And.intro (@Tryz.underlying151) (And.intro (@Tryz.underlying152) (And.intro (@Tryz.underlying153) (And.intro (@Tryz.underlying154) (And.intro (@Tryz.underlying155) (And.intro (@Tryz.underlying156) (And.intro (@Tryz.underlying157) (And.intro (@Tryz.underlying158) (And.intro (@Tryz.underlying159) (And.intro (@Tryz.underlying160) (And.intro (@Tryz.underlying161) (And.intro (@Tryz.underlying162) (And.intro (@Tryz.underlying163) (And.intro (@Tryz.underlying164) (And.intro (@Tryz.underlying165) (And.intro (@Tryz.underlying166) (And.intro (@Tryz.underlying167) (And.intro (@Tryz.underlying168) (And.intro (@Tryz.underlying169) (And.intro (@Tryz.underlying170) (And.intro (@Tryz.underlying171) (And.intro (@Tryz.underlying172) (And.intro (@Tryz.underlying173) (And.intro (@Tryz.underlying174) (And.intro (@Tryz.underlying175) (And.intro (@Tryz.underlying176) (And.intro (@Tryz.underlying177) (And.intro (@Tryz.underlying178) (And.intro (@Tryz.underlying179) (And.intro (@Tryz.underlying180) (And.intro (@Tryz.underlying181) (And.intro (@Tryz.underlying182) (And.intro (@Tryz.underlying183) (And.intro (@Tryz.underlying184) (And.intro (@Tryz.underlying185) (And.intro (@Tryz.underlying186) (And.intro (@Tryz.underlying187) (And.intro (@Tryz.underlying188) (And.intro (@Tryz.underlying189) (And.intro (@Tryz.underlying190) (And.intro (@Tryz.underlying191) (And.intro (@Tryz.underlying192) (And.intro (@Tryz.underlying193) (And.intro (@Tryz.underlying194) (And.intro (@Tryz.underlying195) (And.intro (@Tryz.underlying196) (And.intro (@Tryz.underlying197) (And.intro (@Tryz.underlying198) (And.intro (@Tryz.underlying199) (And.intro (@Tryz.underlying200) (And.intro (@Tryz.underlying201) (And.intro (@Tryz.underlying202) (And.intro (@Tryz.underlying203) (And.intro (@Tryz.underlying204) (And.intro (@Tryz.underlying205) (And.intro (@Tryz.underlying206) (And.intro (@Tryz.underlying207) (And.intro (@Tryz.underlying208) (And.intro (@Tryz.underlying209) (And.intro (@Tryz.underlying210) (And.intro (@Tryz.underlying211) (And.intro (@Tryz.underlying212) (And.intro (@Tryz.underlying213) (And.intro (@Tryz.underlying214) (And.intro (@Tryz.underlying215) (And.intro (@Tryz.underlying216) (And.intro (@Tryz.underlying217) (And.intro (@Tryz.underlying218) (And.intro (@Tryz.underlying219) (And.intro (@Tryz.underlying220) (And.intro (@Tryz.underlying221) (And.intro (@Tryz.underlying222) (And.intro (@Tryz.underlying223) (And.intro (@Tryz.underlying224) (And.intro (@Tryz.underlying225) (And.intro (@Tryz.underlying226) (And.intro (@Tryz.underlying227) (And.intro (@Tryz.underlying228) (And.intro (@Tryz.underlying229) (And.intro (@Tryz.underlying230) (And.intro (@Tryz.underlying231) (And.intro (@Tryz.underlying232) (And.intro (@Tryz.underlying233) (And.intro (@Tryz.underlying234) (And.intro (@Tryz.underlying235) (And.intro (@Tryz.underlying236) (And.intro (@Tryz.underlying237) (And.intro (@Tryz.underlying238) (And.intro (@Tryz.underlying239) (And.intro (@Tryz.underlying240) (And.intro (@Tryz.underlying241) (And.intro (@Tryz.underlying242) (And.intro (@Tryz.underlying243) (And.intro (@Tryz.underlying244) (And.intro (@Tryz.underlying245) (And.intro (@Tryz.underlying246) (And.intro (@Tryz.underlying247) (And.intro (@Tryz.underlying248) (And.intro (@Tryz.underlying249) (And.intro (@Tryz.underlying250) (And.intro (@Tryz.underlying251) (And.intro (@Tryz.underlying252) (And.intro (@Tryz.underlying253) (And.intro (@Tryz.underlying254) (And.intro (@Tryz.underlying255) (And.intro (@Tryz.underlying256) (And.intro (@Tryz.underlying257) (And.intro (@Tryz.underlying258) (And.intro (@Tryz.underlying259) (And.intro (@Tryz.underlying260) (And.intro (@Tryz.underlying261) (And.intro (@Tryz.underlying262) (And.intro (@Tryz.underlying263) (And.intro (@Tryz.underlying264) (And.intro (@Tryz.underlying265) (And.intro (@Tryz.underlying266) (And.intro (@Tryz.underlying267) (And.intro (@c0) (And.intro (@c1) (And.intro (@c2) (And.intro (@c3) (And.intro (@c4) (And.intro (@c5) (And.intro (@c6) (And.intro (@c7) (And.intro (@c8) (And.intro (@c9) (And.intro (@c10) (And.intro (@c11) (And.intro (@c12) (And.intro (@c13) (And.intro (@c14) (And.intro (@c15) (And.intro (@c16) (And.intro (@c17) (And.intro (@c18) (And.intro (@c19) (And.intro (@c20) (And.intro (@c21) (And.intro (@c22) (And.intro (@c23) (And.intro (@c24) (And.intro (@c25) (And.intro (@c26) (And.intro (@c27) (And.intro (@c28) (And.intro (@c29) (And.intro (@c30) (And.intro (@c31) (And.intro (@c32) (And.intro (@c33) (And.intro (@c34) (And.intro (@c35) (And.intro (@c36) (And.intro (@c37) (And.intro (@c38) (And.intro (@c39) (And.intro (@c40) (And.intro (@c41) (And.intro (@c42) (And.intro (@c43) (And.intro (@c44) (And.intro (@c45) (And.intro (@c46) (And.intro (@c47) (And.intro (@c48) (And.intro (@c49) (And.intro (@c50) (And.intro (@c51) (And.intro (@c52) (And.intro (@c53) (And.intro (@c54) (And.intro (@c55) (And.intro (@c56) (And.intro (@c57) (And.intro (@c58) (And.intro (@c59) (And.intro (@c60) (And.intro (@c61) (And.intro (@c62) (And.intro (@c63) (And.intro (@c64) (And.intro (@c65) (And.intro (@c66) (And.intro (@c67) (And.intro (@c68) (And.intro (@c69) (And.intro (@c70) (And.intro (@c71) (And.intro (@c72) (And.intro (@c73) (And.intro (@c74) (And.intro (@c75) (And.intro (@c76) (And.intro (@c77) (And.intro (@c78) (And.intro (@c79) (And.intro (@c80) (And.intro (@c81) (And.intro (@c82) (And.intro (@c83) (And.intro (@c84) (And.intro (@c85) (And.intro (@c86) (And.intro (@c87) (And.intro (@c88) (And.intro (@c89) (And.intro (@c90) (And.intro (@c91) (And.intro (@c92) (And.intro (@c93) (And.intro (@c94) (And.intro (@c95) (And.intro (@c96) (And.intro (@c97) (And.intro (@c98) (And.intro (@c99) (And.intro (@c100) (And.intro (@c101) (And.intro (@c102) (And.intro (@c103) (And.intro (@c104) (And.intro (@c105) (And.intro (@c106) (And.intro (@c107) (And.intro (@c108) (And.intro (@c109) (And.intro (@c110) (And.intro (@c111) (And.intro (@c112) (And.intro (@c113) (And.intro (@c114) (And.intro (@c115) (And.intro (@c116) (And.intro (@c117) (And.intro (@c118) (And.intro (@c119) (And.intro (@c120) (And.intro (@c121) (And.intro (@c122) (And.intro (@c123) (And.intro (@c124) (And.intro (@c125) (And.intro (@c126) (And.intro (@c127) (And.intro (@c128) (And.intro (@c129) (And.intro (@c130) (And.intro (@c131) (And.intro (@c132) (And.intro (@c133) (And.intro (@c134) (And.intro (@c135) (And.intro (@c136) (And.intro (@c137) (And.intro (@c138) (And.intro (@c139) (And.intro (@c140) (And.intro (@c141) (And.intro (@c142) (And.intro (@c143) (And.intro (@c144) (And.intro (@c145) (And.intro (@c146) (And.intro (@c147) (And.intro (@c148) (And.intro (@c149) (And.intro (@c150) (And.intro (@c151) (And.intro (@c152) (And.intro (@c153) (And.intro (@c154) (And.intro (@c155) (And.intro (@c156) (And.intro (@c157) (And.intro (@c158) (And.intro (@c159) (And.intro (@c160) (And.intro (@c161) (And.intro (@c162) (And.intro (@c163) (And.intro (@c164) (And.intro (@c165) (And.intro (@c166) (And.intro (@c167) (And.intro (@c168) (And.intro (@c169) (And.intro (@c170) (And.intro (@c171) (And.intro (@c172) (And.intro (@c173) (And.intro (@c174) (And.intro (@c175) (And.intro (@c176) (And.intro (@c177) (And.intro (@c178) (And.intro (@c179) (And.intro (@c180) (And.intro (@c181) (And.intro (@c182) (And.intro (@c183) (And.intro (@c184) (And.intro (@c185) (And.intro (@c186) (And.intro (@c187) (And.intro (@c188) (And.intro (@c189) (And.intro (@c190) (And.intro (@c191) (And.intro (@c192) (And.intro (@c193) (And.intro (@c194) (And.intro (@c195) (And.intro (@c196) (And.intro (@c197) (And.intro (@c198) (And.intro (@c199) (And.intro (@c200) (And.intro (@c201) (And.intro (@c202) (And.intro (@c203) (And.intro (@c204) (And.intro (@c205) (And.intro (@c206) (And.intro (@c207) (And.intro (@c208) (And.intro (@c209) (And.intro (@c210) (And.intro (@c211) (And.intro (@c212) (And.intro (@c213) (And.intro (@c214) (And.intro (@c215) (And.intro (@c216) (And.intro (@c217) (And.intro (@c218) (And.intro (@c219) (And.intro (@c220) (And.intro (@c221) (And.intro (@c222) (And.intro (@c223) (And.intro (@c224) (And.intro (@c225) (And.intro (@c226) (And.intro (@c227) (And.intro (@c228) (And.intro (@c229) (And.intro (@c230) (And.intro (@c231) (And.intro (@c232) (And.intro (@c233) (And.intro (@c234) (And.intro (@c235) (And.intro (@c236) (And.intro (@c237) (And.intro (@c238) (And.intro (@c239) (And.intro (@c240) (And.intro (@c241) (And.intro (@c242) (And.intro (@c243) (And.intro (@c244) (And.intro (@c245) (And.intro (@c246) (And.intro (@c247) (And.intro (@c248) (And.intro (@c249) (And.intro (@c250) (And.intro (@c251) (And.intro (@c252) (And.intro (@c253) (And.intro (@c254) (And.intro (@c255) (And.intro (@c256) (And.intro (@c257) (And.intro (@c258) (And.intro (@c259) (And.intro (@c260) (And.intro (@c261) (And.intro (@c262) (And.intro (@c263) (And.intro (@c264) (And.intro (@c265) (And.intro (@c266) (And.intro (@c267) (And.intro (@z1) (And.intro (@z2) (And.intro (@z3) (And.intro (@z4) (And.intro (@z5) (And.intro (@z6) (And.intro (@z7) (And.intro (@z8) (And.intro (@z9) (And.intro (@z10) (And.intro (@z11) (And.intro (@z12) (And.intro (@z13) (And.intro (@z14) (And.intro (@z15) (And.intro (@z16) (And.intro (@z17) (And.intro (@z18) (And.intro (@z19) (And.intro (@z20) (And.intro (@z21) (And.intro (@z22) (And.intro (@z23) (And.intro (@z24) (And.intro (@z25) (And.intro (@z26) (And.intro (@z27) (And.intro (@z28) (And.intro (@z29) (And.intro (@z30) (And.intro (@z31) (And.intro (@z33) (And.intro (@z35) (And.intro (@z36) (And.intro (@z38) (And.intro (@z39) (And.intro (@z41) (And.intro (@z43) (And.intro (@z44) (And.intro (@z45) (And.intro (@z46) (And.intro (@z47) (And.intro (@z48) (And.intro (@z49) (And.intro (@z50) (And.intro (@z51) (And.intro (@z52) (And.intro (@z53) (And.intro (@z54) (And.intro (@z55) (And.intro (@z56) (And.intro (@z58) (And.intro (@z59) (And.intro (@z61) (And.intro (@z63) (And.intro (@z64) (And.intro (@z65) (And.intro (@z67) (And.intro (@z68) (And.intro (@z69) (And.intro (@z70) (And.intro (@z71) (And.intro (@z72) (And.intro (@z73) (And.intro (@z75) (And.intro (@z76) (And.intro (@z77) (And.intro (@z79) (And.intro (@z80) (And.intro (@z81) (And.intro (@z82) (And.intro (@z84) (And.intro (@z85) (And.intro (@z86) (And.intro (@z87) (And.intro (@z88) (And.intro (@z89) (And.intro (@z90) (And.intro (@z91) (And.intro (@z92) (And.intro (@z94) (And.intro (@z95) (And.intro (@z97) (And.intro (@z98) (And.intro (@z99) (And.intro (@z100) (And.intro (@z101) (And.intro (@z102) (And.intro (@z104) (And.intro (@z105) (And.intro (@z106) (And.intro (@z107) (And.intro (@z108) (And.intro (@z109) (And.intro (@z110) (And.intro (@z111) (And.intro (@z112) (And.intro (@z114) (And.intro (@z115) (And.intro (@z116) (And.intro (@z117) (And.intro (@z118) (And.intro (@z119) (And.intro (@z120) (And.intro (@z121) (And.intro (@z122) (And.intro (@z124) (And.intro (@z125) (And.intro (@z126) (And.intro (@z127) (And.intro (@z128) (And.intro (@z129) (And.intro (@z130) (And.intro (@z131) (And.intro (@z132) (And.intro (@z133) (And.intro (@z134) (And.intro (@z135) (And.intro (@z136) (And.intro (@z137) (And.intro (@z138) (And.intro (@z139) (And.intro (@z140) (And.intro (@z141) (And.intro (@z142) (And.intro (@z143) (And.intro (@z144) (And.intro (@z145) (And.intro (@z146) (And.intro (@z147) (And.intro (@z148) (And.intro (@z149) (And.intro (@z150) (And.intro (@z151) (And.intro (@z152) (And.intro (@z153) (And.intro (@z154) (And.intro (@z155) (And.intro (@z156) (And.intro (@z158) (And.intro (@z159) (And.intro (@z161) (And.intro (@z162) (And.intro (@z163) (And.intro (@z165) (And.intro (@z166) (And.intro (@z167) (And.intro (@z168) (And.intro (@z169) (And.intro (@z170) (And.intro (@z171) (And.intro (@z172) (And.intro (@z173) (And.intro (@z174) (And.intro (@z175) (And.intro (@z176) (And.intro (@z177) (And.intro (@z178) (And.intro (@z179) (And.intro (@z180) (And.intro (@z181) (And.intro (@z182) (And.intro (@z183) (And.intro (@z184) (And.intro (@z185) (And.intro (@z186) (And.intro (@z187) (And.intro (@z188) (And.intro (@z189) (And.intro (@z190) (And.intro (@z191) (And.intro (@z192) (And.intro (@z193) (And.intro (@z194) (And.intro (@z195) (And.intro (@z196) (And.intro (@z197) (And.intro (@z198) (And.intro (@z199) (And.intro (@z200) (And.intro (@z201) (And.intro (@z202) (And.intro (@z203) (And.intro (@z204) (And.intro (@z206) (And.intro (@z207) (And.intro (@z208) (And.intro (@z209) (And.intro (@z210) (And.intro (@z211) (And.intro (@z212) (And.intro (@z213) (And.intro (@z214) (And.intro (@z215) (And.intro (@z216) (And.intro (@z218) (And.intro (@z219) (And.intro (@z220) (And.intro (@z221) (And.intro (@z222) (And.intro (@z223) (And.intro (@z224) (And.intro (@z225) (And.intro (@z226) (And.intro (@z227) (And.intro (@z228) (And.intro (@z229) (And.intro (@z230) (And.intro (@z231) (And.intro (@z232) (And.intro (@z233) (And.intro (@z234) (And.intro (@z235) (And.intro (@z236) (And.intro (@z237) (And.intro (@z238) (And.intro (@z239) (And.intro (@z240) (And.intro (@z241) (And.intro (@z242) (And.intro (@z243) (And.intro (@z244) (And.intro (@z245) (And.intro (@z246) (And.intro (@z247) (And.intro (@z248) (And.intro (@z249) (And.intro (@z250) (And.intro (@z251) (And.intro (@z252) (And.intro (@z253) (And.intro (@z254) (And.intro (@z255) (And.intro (@z256) (And.intro (@z257) (And.intro (@z258) (And.intro (@z259) (And.intro (@z260) (And.intro (@z261) (And.intro (@z262) (And.intro (@z263) (And.intro (@z264) (And.intro (@z265) (And.intro (@z266) (@z267))))))))))))))))))))))))))))))))))))))))))))))))))))))))))))))))))))))))))))))))))))))))))))))))))))))))))))))))))))))))))))))))))))))))))))))))))))))))))))))))))))))))))))))))))))))))))))))))))))))))))))))))))))))))))))))))))))))))))))))))))))))))))))))))))))))))))))))))))))))))))))))))))))))))))))))))))))))))))))))))))))))))))))))))))))))))))))))))))))))))))))))))))))))))))))))))))))))))))))))))))))))))))))))))))))))))))))))))))))))))))))))))))))))))))))))))))))))))))))))))))))))))))))))))))))))))))))))))))))))))))))))))))))))))))))))))))))))))))))))))))))))))))))))))))))))))))))))))))))))))))))))))))))))))))))))))))))))))))))))))))))))))))))))))))))))))))))))))))))))))))))))))))))))))))))))))))))))))))))))))))))))))))))))))))))))))))))))))))))))))))))))))))))))))))))
end Go.Proofs.YtebbgninkbghlaaGreatDoor

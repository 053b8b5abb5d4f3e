/-
  Facts on the seat's types, written by wip/mk.py: how many cells and bytes a type has. Conditions: none.
-/
import Derived.Test.YthlkfjoibjhaiaaGreatDoorMWholeShown5
import Derived.Test.YthlkfjoibjhaiaaGreatDoorRows
/-! Ty -/
namespace Go.Proofs.YthlkfjoibjhaiaaGreatDoor
open Go
theorem c0 : Tryz.prog.cellsOf 0 = 1 := by kernel_rfl
theorem by0 : Tryz.prog.bytesOf 0 = 0 := by kernel_rfl
theorem c1 : Tryz.prog.cellsOf 1 = 1 := by kernel_rfl
theorem by1 : Tryz.prog.bytesOf 1 = 8 := by kernel_rfl
theorem c2 : Tryz.prog.cellsOf 2 = 1 := by kernel_rfl
theorem by2 : Tryz.prog.bytesOf 2 = 8 := by kernel_rfl
theorem c3 : Tryz.prog.cellsOf 3 = 1 := by kernel_rfl
theorem by3 : Tryz.prog.bytesOf 3 = 8 := by kernel_rfl
theorem c4 : Tryz.prog.cellsOf 4 = 1 := by kernel_rfl
theorem by4 : Tryz.prog.bytesOf 4 = 1 := by kernel_rfl
theorem c5 : Tryz.prog.cellsOf 5 = 1 := by kernel_rfl
theorem by5 : Tryz.prog.bytesOf 5 = 1 := by kernel_rfl
theorem c6 : Tryz.prog.cellsOf 6 = 1 := by kernel_rfl
theorem by6 : Tryz.prog.bytesOf 6 = 1 := by kernel_rfl
theorem c7 : Tryz.prog.cellsOf 7 = 4 := by kernel_rfl
theorem by7 : Tryz.prog.bytesOf 7 = 24 := by kernel_rfl
theorem c8 : Tryz.prog.cellsOf 8 = 4 := by kernel_rfl
theorem by8 : Tryz.prog.bytesOf 8 = 24 := by kernel_rfl
theorem c9 : Tryz.prog.cellsOf 9 = 1 := by kernel_rfl
theorem by9 : Tryz.prog.bytesOf 9 = 16 := by kernel_rfl
theorem c10 : Tryz.prog.cellsOf 10 = 1 := by kernel_rfl
theorem by10 : Tryz.prog.bytesOf 10 = 16 := by kernel_rfl
theorem c11 : Tryz.prog.cellsOf 11 = 1 := by kernel_rfl
theorem by11 : Tryz.prog.bytesOf 11 = 16 := by kernel_rfl
theorem c12 : Tryz.prog.cellsOf 12 = 1 := by kernel_rfl
theorem by12 : Tryz.prog.bytesOf 12 = 8 := by kernel_rfl
theorem c13 : Tryz.prog.cellsOf 13 = 2 := by kernel_rfl
theorem by13 : Tryz.prog.bytesOf 13 = 24 := by kernel_rfl
theorem c14 : Tryz.prog.cellsOf 14 = 2 := by kernel_rfl
theorem by14 : Tryz.prog.bytesOf 14 = 24 := by kernel_rfl
theorem c15 : Tryz.prog.cellsOf 15 = 1 := by kernel_rfl
theorem by15 : Tryz.prog.bytesOf 15 = 8 := by kernel_rfl
theorem c16 : Tryz.prog.cellsOf 16 = 1 := by kernel_rfl
theorem by16 : Tryz.prog.bytesOf 16 = 8 := by kernel_rfl
theorem c17 : Tryz.prog.cellsOf 17 = 1 := by kernel_rfl
theorem by17 : Tryz.prog.bytesOf 17 = 8 := by kernel_rfl
theorem c18 : Tryz.prog.cellsOf 18 = 1 := by kernel_rfl
theorem by18 : Tryz.prog.bytesOf 18 = 8 := by kernel_rfl
theorem c19 : Tryz.prog.cellsOf 19 = 1 := by kernel_rfl
theorem by19 : Tryz.prog.bytesOf 19 = 8 := by kernel_rfl
theorem c20 : Tryz.prog.cellsOf 20 = 1 := by kernel_rfl
theorem by20 : Tryz.prog.bytesOf 20 = 16 := by kernel_rfl
theorem c21 : Tryz.prog.cellsOf 21 = 1 := by kernel_rfl
theorem by21 : Tryz.prog.bytesOf 21 = 4 := by kernel_rfl
theorem c22 : Tryz.prog.cellsOf 22 = 1 := by kernel_rfl
theorem by22 : Tryz.prog.bytesOf 22 = 24 := by kernel_rfl
theorem c23 : Tryz.prog.cellsOf 23 = 1 := by kernel_rfl
theorem by23 : Tryz.prog.bytesOf 23 = 24 := by kernel_rfl
theorem c24 : Tryz.prog.cellsOf 24 = 1 := by kernel_rfl
theorem by24 : Tryz.prog.bytesOf 24 = 24 := by kernel_rfl
theorem c25 : Tryz.prog.cellsOf 25 = 2 := by kernel_rfl
theorem by25 : Tryz.prog.bytesOf 25 = 48 := by kernel_rfl
theorem c26 : Tryz.prog.cellsOf 26 = 2 := by kernel_rfl
theorem by26 : Tryz.prog.bytesOf 26 = 48 := by kernel_rfl
theorem c27 : Tryz.prog.cellsOf 27 = 32 := by kernel_rfl
theorem by27 : Tryz.prog.bytesOf 27 = 32 := by kernel_rfl
theorem c28 : Tryz.prog.cellsOf 28 = 32 := by kernel_rfl
theorem by28 : Tryz.prog.bytesOf 28 = 32 := by kernel_rfl
theorem c29 : Tryz.prog.cellsOf 29 = 36 := by kernel_rfl
theorem by29 : Tryz.prog.bytesOf 29 = 112 := by kernel_rfl
theorem c30 : Tryz.prog.cellsOf 30 = 36 := by kernel_rfl
theorem by30 : Tryz.prog.bytesOf 30 = 112 := by kernel_rfl
theorem c31 : Tryz.prog.cellsOf 31 = 1 := by kernel_rfl
theorem by31 : Tryz.prog.bytesOf 31 = 8 := by kernel_rfl
theorem c32 : Tryz.prog.cellsOf 32 = 1 := by kernel_rfl
theorem by32 : Tryz.prog.bytesOf 32 = 0 := by kernel_rfl
theorem c33 : Tryz.prog.cellsOf 33 = 1 := by kernel_rfl
theorem by33 : Tryz.prog.bytesOf 33 = 8 := by kernel_rfl
theorem c34 : Tryz.prog.cellsOf 34 = 1 := by kernel_rfl
theorem by34 : Tryz.prog.bytesOf 34 = 0 := by kernel_rfl
theorem c35 : Tryz.prog.cellsOf 35 = 1 := by kernel_rfl
theorem by35 : Tryz.prog.bytesOf 35 = 8 := by kernel_rfl
theorem c36 : Tryz.prog.cellsOf 36 = 1 := by kernel_rfl
theorem by36 : Tryz.prog.bytesOf 36 = 24 := by kernel_rfl
theorem c37 : Tryz.prog.cellsOf 37 = 1 := by kernel_rfl
theorem by37 : Tryz.prog.bytesOf 37 = 0 := by kernel_rfl
theorem c38 : Tryz.prog.cellsOf 38 = 1 := by kernel_rfl
theorem by38 : Tryz.prog.bytesOf 38 = 8 := by kernel_rfl
theorem c39 : Tryz.prog.cellsOf 39 = 1 := by kernel_rfl
theorem by39 : Tryz.prog.bytesOf 39 = 8 := by kernel_rfl
theorem c40 : Tryz.prog.cellsOf 40 = 1 := by kernel_rfl
theorem by40 : Tryz.prog.bytesOf 40 = 0 := by kernel_rfl
theorem c41 : Tryz.prog.cellsOf 41 = 1 := by kernel_rfl
theorem by41 : Tryz.prog.bytesOf 41 = 8 := by kernel_rfl
theorem c42 : Tryz.prog.cellsOf 42 = 1 := by kernel_rfl
theorem by42 : Tryz.prog.bytesOf 42 = 0 := by kernel_rfl
theorem c43 : Tryz.prog.cellsOf 43 = 1 := by kernel_rfl
theorem by43 : Tryz.prog.bytesOf 43 = 8 := by kernel_rfl
theorem c44 : Tryz.prog.cellsOf 44 = 1 := by kernel_rfl
theorem by44 : Tryz.prog.bytesOf 44 = 8 := by kernel_rfl
theorem c45 : Tryz.prog.cellsOf 45 = 1 := by kernel_rfl
theorem by45 : Tryz.prog.bytesOf 45 = 8 := by kernel_rfl
theorem c46 : Tryz.prog.cellsOf 46 = 2 := by kernel_rfl
theorem by46 : Tryz.prog.bytesOf 46 = 48 := by kernel_rfl
theorem c47 : Tryz.prog.cellsOf 47 = 2 := by kernel_rfl
theorem by47 : Tryz.prog.bytesOf 47 = 48 := by kernel_rfl
theorem c48 : Tryz.prog.cellsOf 48 = 1 := by kernel_rfl
theorem by48 : Tryz.prog.bytesOf 48 = 2 := by kernel_rfl
theorem c49 : Tryz.prog.cellsOf 49 = 1 := by kernel_rfl
theorem by49 : Tryz.prog.bytesOf 49 = 24 := by kernel_rfl
theorem c50 : Tryz.prog.cellsOf 50 = 2 := by kernel_rfl
theorem by50 : Tryz.prog.bytesOf 50 = 32 := by kernel_rfl
theorem c51 : Tryz.prog.cellsOf 51 = 2 := by kernel_rfl
theorem by51 : Tryz.prog.bytesOf 51 = 32 := by kernel_rfl
theorem c52 : Tryz.prog.cellsOf 52 = 1 := by kernel_rfl
theorem by52 : Tryz.prog.bytesOf 52 = 8 := by kernel_rfl
theorem c53 : Tryz.prog.cellsOf 53 = 1 := by kernel_rfl
theorem by53 : Tryz.prog.bytesOf 53 = 8 := by kernel_rfl
theorem c54 : Tryz.prog.cellsOf 54 = 1 := by kernel_rfl
theorem by54 : Tryz.prog.bytesOf 54 = 8 := by kernel_rfl
theorem c55 : Tryz.prog.cellsOf 55 = 1 := by kernel_rfl
theorem by55 : Tryz.prog.bytesOf 55 = 8 := by kernel_rfl
theorem c56 : Tryz.prog.cellsOf 56 = 1 := by kernel_rfl
theorem by56 : Tryz.prog.bytesOf 56 = 24 := by kernel_rfl
theorem c57 : Tryz.prog.cellsOf 57 = 1 := by kernel_rfl
theorem by57 : Tryz.prog.bytesOf 57 = 0 := by kernel_rfl
theorem c58 : Tryz.prog.cellsOf 58 = 1 := by kernel_rfl
theorem by58 : Tryz.prog.bytesOf 58 = 8 := by kernel_rfl
theorem c59 : Tryz.prog.cellsOf 59 = 1 := by kernel_rfl
theorem by59 : Tryz.prog.bytesOf 59 = 8 := by kernel_rfl
theorem c60 : Tryz.prog.cellsOf 60 = 1 := by kernel_rfl
theorem by60 : Tryz.prog.bytesOf 60 = 0 := by kernel_rfl
theorem c61 : Tryz.prog.cellsOf 61 = 1 := by kernel_rfl
theorem by61 : Tryz.prog.bytesOf 61 = 8 := by kernel_rfl
theorem c62 : Tryz.prog.cellsOf 62 = 1 := by kernel_rfl
theorem by62 : Tryz.prog.bytesOf 62 = 0 := by kernel_rfl
theorem c63 : Tryz.prog.cellsOf 63 = 1 := by kernel_rfl
theorem by63 : Tryz.prog.bytesOf 63 = 8 := by kernel_rfl
theorem c64 : Tryz.prog.cellsOf 64 = 1 := by kernel_rfl
theorem by64 : Tryz.prog.bytesOf 64 = 8 := by kernel_rfl
theorem c65 : Tryz.prog.cellsOf 65 = 1 := by kernel_rfl
theorem by65 : Tryz.prog.bytesOf 65 = 8 := by kernel_rfl
theorem c66 : Tryz.prog.cellsOf 66 = 1 := by kernel_rfl
theorem by66 : Tryz.prog.bytesOf 66 = 8 := by kernel_rfl
theorem c67 : Tryz.prog.cellsOf 67 = 1 := by kernel_rfl
theorem by67 : Tryz.prog.bytesOf 67 = 8 := by kernel_rfl
theorem c68 : Tryz.prog.cellsOf 68 = 1 := by kernel_rfl
theorem by68 : Tryz.prog.bytesOf 68 = 8 := by kernel_rfl
theorem c69 : Tryz.prog.cellsOf 69 = 1 := by kernel_rfl
theorem by69 : Tryz.prog.bytesOf 69 = 8 := by kernel_rfl
theorem c70 : Tryz.prog.cellsOf 70 = 1 := by kernel_rfl
theorem by70 : Tryz.prog.bytesOf 70 = 0 := by kernel_rfl
theorem c71 : Tryz.prog.cellsOf 71 = 1 := by kernel_rfl
theorem by71 : Tryz.prog.bytesOf 71 = 8 := by kernel_rfl
theorem c72 : Tryz.prog.cellsOf 72 = 1 := by kernel_rfl
theorem by72 : Tryz.prog.bytesOf 72 = 8 := by kernel_rfl
theorem c73 : Tryz.prog.cellsOf 73 = 1 := by kernel_rfl
theorem by73 : Tryz.prog.bytesOf 73 = 8 := by kernel_rfl
theorem c74 : Tryz.prog.cellsOf 74 = 1 := by kernel_rfl
theorem by74 : Tryz.prog.bytesOf 74 = 8 := by kernel_rfl
theorem c75 : Tryz.prog.cellsOf 75 = 1 := by kernel_rfl
theorem by75 : Tryz.prog.bytesOf 75 = 24 := by kernel_rfl
theorem c76 : Tryz.prog.cellsOf 76 = 1 := by kernel_rfl
theorem by76 : Tryz.prog.bytesOf 76 = 8 := by kernel_rfl
theorem c77 : Tryz.prog.cellsOf 77 = 1 := by kernel_rfl
theorem by77 : Tryz.prog.bytesOf 77 = 0 := by kernel_rfl
theorem c78 : Tryz.prog.cellsOf 78 = 1 := by kernel_rfl
theorem by78 : Tryz.prog.bytesOf 78 = 8 := by kernel_rfl
theorem c79 : Tryz.prog.cellsOf 79 = 1 := by kernel_rfl
theorem by79 : Tryz.prog.bytesOf 79 = 8 := by kernel_rfl
theorem c80 : Tryz.prog.cellsOf 80 = 1 := by kernel_rfl
theorem by80 : Tryz.prog.bytesOf 80 = 8 := by kernel_rfl
theorem c81 : Tryz.prog.cellsOf 81 = 1 := by kernel_rfl
theorem by81 : Tryz.prog.bytesOf 81 = 8 := by kernel_rfl
theorem c82 : Tryz.prog.cellsOf 82 = 1 := by kernel_rfl
theorem by82 : Tryz.prog.bytesOf 82 = 0 := by kernel_rfl
theorem c83 : Tryz.prog.cellsOf 83 = 1 := by kernel_rfl
theorem by83 : Tryz.prog.bytesOf 83 = 8 := by kernel_rfl
theorem c84 : Tryz.prog.cellsOf 84 = 1 := by kernel_rfl
theorem by84 : Tryz.prog.bytesOf 84 = 24 := by kernel_rfl
theorem c85 : Tryz.prog.cellsOf 85 = 1 := by kernel_rfl
theorem by85 : Tryz.prog.bytesOf 85 = 8 := by kernel_rfl
theorem c86 : Tryz.prog.cellsOf 86 = 1 := by kernel_rfl
theorem by86 : Tryz.prog.bytesOf 86 = 8 := by kernel_rfl
theorem c87 : Tryz.prog.cellsOf 87 = 1 := by kernel_rfl
theorem by87 : Tryz.prog.bytesOf 87 = 0 := by kernel_rfl
theorem c88 : Tryz.prog.cellsOf 88 = 1 := by kernel_rfl
theorem by88 : Tryz.prog.bytesOf 88 = 8 := by kernel_rfl
theorem c89 : Tryz.prog.cellsOf 89 = 3 := by kernel_rfl
theorem by89 : Tryz.prog.bytesOf 89 = 56 := by kernel_rfl
theorem c90 : Tryz.prog.cellsOf 90 = 3 := by kernel_rfl
theorem by90 : Tryz.prog.bytesOf 90 = 56 := by kernel_rfl
theorem c91 : Tryz.prog.cellsOf 91 = 1 := by kernel_rfl
theorem by91 : Tryz.prog.bytesOf 91 = 8 := by kernel_rfl
theorem c92 : Tryz.prog.cellsOf 92 = 1 := by kernel_rfl
theorem by92 : Tryz.prog.bytesOf 92 = 24 := by kernel_rfl
theorem c93 : Tryz.prog.cellsOf 93 = 1 := by kernel_rfl
theorem by93 : Tryz.prog.bytesOf 93 = 24 := by kernel_rfl
theorem c94 : Tryz.prog.cellsOf 94 = 1 := by kernel_rfl
theorem by94 : Tryz.prog.bytesOf 94 = 8 := by kernel_rfl
theorem c95 : Tryz.prog.cellsOf 95 = 1 := by kernel_rfl
theorem by95 : Tryz.prog.bytesOf 95 = 8 := by kernel_rfl
theorem c96 : Tryz.prog.cellsOf 96 = 1 := by kernel_rfl
theorem by96 : Tryz.prog.bytesOf 96 = 8 := by kernel_rfl
theorem c97 : Tryz.prog.cellsOf 97 = 1 := by kernel_rfl
theorem by97 : Tryz.prog.bytesOf 97 = 24 := by kernel_rfl
theorem c98 : Tryz.prog.cellsOf 98 = 1 := by kernel_rfl
theorem by98 : Tryz.prog.bytesOf 98 = 8 := by kernel_rfl
theorem c99 : Tryz.prog.cellsOf 99 = 1 := by kernel_rfl
theorem by99 : Tryz.prog.bytesOf 99 = 24 := by kernel_rfl
theorem c100 : Tryz.prog.cellsOf 100 = 3 := by kernel_rfl
theorem by100 : Tryz.prog.bytesOf 100 = 56 := by kernel_rfl
theorem c101 : Tryz.prog.cellsOf 101 = 3 := by kernel_rfl
theorem by101 : Tryz.prog.bytesOf 101 = 56 := by kernel_rfl
theorem c102 : Tryz.prog.cellsOf 102 = 1 := by kernel_rfl
theorem by102 : Tryz.prog.bytesOf 102 = 0 := by kernel_rfl
theorem c103 : Tryz.prog.cellsOf 103 = 1 := by kernel_rfl
theorem by103 : Tryz.prog.bytesOf 103 = 8 := by kernel_rfl
theorem c104 : Tryz.prog.cellsOf 104 = 1 := by kernel_rfl
theorem by104 : Tryz.prog.bytesOf 104 = 8 := by kernel_rfl
theorem c105 : Tryz.prog.cellsOf 105 = 1 := by kernel_rfl
theorem by105 : Tryz.prog.bytesOf 105 = 8 := by kernel_rfl
theorem c106 : Tryz.prog.cellsOf 106 = 1 := by kernel_rfl
theorem by106 : Tryz.prog.bytesOf 106 = 8 := by kernel_rfl
theorem c107 : Tryz.prog.cellsOf 107 = 1 := by kernel_rfl
theorem by107 : Tryz.prog.bytesOf 107 = 0 := by kernel_rfl
theorem c108 : Tryz.prog.cellsOf 108 = 1 := by kernel_rfl
theorem by108 : Tryz.prog.bytesOf 108 = 8 := by kernel_rfl
theorem c109 : Tryz.prog.cellsOf 109 = 1 := by kernel_rfl
theorem by109 : Tryz.prog.bytesOf 109 = 8 := by kernel_rfl
theorem c110 : Tryz.prog.cellsOf 110 = 1 := by kernel_rfl
theorem by110 : Tryz.prog.bytesOf 110 = 8 := by kernel_rfl
theorem c111 : Tryz.prog.cellsOf 111 = 1 := by kernel_rfl
theorem by111 : Tryz.prog.bytesOf 111 = 0 := by kernel_rfl
theorem c112 : Tryz.prog.cellsOf 112 = 1 := by kernel_rfl
theorem by112 : Tryz.prog.bytesOf 112 = 8 := by kernel_rfl
theorem c113 : Tryz.prog.cellsOf 113 = 1 := by kernel_rfl
theorem by113 : Tryz.prog.bytesOf 113 = 0 := by kernel_rfl
theorem c114 : Tryz.prog.cellsOf 114 = 1 := by kernel_rfl
theorem by114 : Tryz.prog.bytesOf 114 = 8 := by kernel_rfl
theorem c115 : Tryz.prog.cellsOf 115 = 1 := by kernel_rfl
theorem by115 : Tryz.prog.bytesOf 115 = 0 := by kernel_rfl
theorem c116 : Tryz.prog.cellsOf 116 = 1 := by kernel_rfl
theorem by116 : Tryz.prog.bytesOf 116 = 8 := by kernel_rfl
theorem c117 : Tryz.prog.cellsOf 117 = 1 := by kernel_rfl
theorem by117 : Tryz.prog.bytesOf 117 = 8 := by kernel_rfl
theorem c118 : Tryz.prog.cellsOf 118 = 1 := by kernel_rfl
theorem by118 : Tryz.prog.bytesOf 118 = 0 := by kernel_rfl
theorem c119 : Tryz.prog.cellsOf 119 = 1 := by kernel_rfl
theorem by119 : Tryz.prog.bytesOf 119 = 8 := by kernel_rfl
theorem c120 : Tryz.prog.cellsOf 120 = 1 := by kernel_rfl
theorem by120 : Tryz.prog.bytesOf 120 = 8 := by kernel_rfl
theorem c121 : Tryz.prog.cellsOf 121 = 65 := by kernel_rfl
theorem by121 : Tryz.prog.bytesOf 121 = 72 := by kernel_rfl
theorem c122 : Tryz.prog.cellsOf 122 = 65 := by kernel_rfl
theorem by122 : Tryz.prog.bytesOf 122 = 72 := by kernel_rfl
theorem c123 : Tryz.prog.cellsOf 123 = 1 := by kernel_rfl
theorem by123 : Tryz.prog.bytesOf 123 = 8 := by kernel_rfl
theorem c124 : Tryz.prog.cellsOf 124 = 1 := by kernel_rfl
theorem by124 : Tryz.prog.bytesOf 124 = 8 := by kernel_rfl
theorem c125 : Tryz.prog.cellsOf 125 = 1 := by kernel_rfl
theorem by125 : Tryz.prog.bytesOf 125 = 24 := by kernel_rfl
theorem c126 : Tryz.prog.cellsOf 126 = 1 := by kernel_rfl
theorem by126 : Tryz.prog.bytesOf 126 = 0 := by kernel_rfl
theorem c127 : Tryz.prog.cellsOf 127 = 1 := by kernel_rfl
theorem by127 : Tryz.prog.bytesOf 127 = 8 := by kernel_rfl
theorem c128 : Tryz.prog.cellsOf 128 = 1 := by kernel_rfl
theorem by128 : Tryz.prog.bytesOf 128 = 0 := by kernel_rfl
theorem c129 : Tryz.prog.cellsOf 129 = 1 := by kernel_rfl
theorem by129 : Tryz.prog.bytesOf 129 = 8 := by kernel_rfl
theorem c130 : Tryz.prog.cellsOf 130 = 1 := by kernel_rfl
theorem by130 : Tryz.prog.bytesOf 130 = 24 := by kernel_rfl
theorem c131 : Tryz.prog.cellsOf 131 = 1 := by kernel_rfl
theorem by131 : Tryz.prog.bytesOf 131 = 24 := by kernel_rfl
theorem c132 : Tryz.prog.cellsOf 132 = 2 := by kernel_rfl
theorem by132 : Tryz.prog.bytesOf 132 = 32 := by kernel_rfl
theorem c133 : Tryz.prog.cellsOf 133 = 2 := by kernel_rfl
theorem by133 : Tryz.prog.bytesOf 133 = 32 := by kernel_rfl
theorem c134 : Tryz.prog.cellsOf 134 = 3 := by kernel_rfl
theorem by134 : Tryz.prog.bytesOf 134 = 40 := by kernel_rfl
theorem c135 : Tryz.prog.cellsOf 135 = 3 := by kernel_rfl
theorem by135 : Tryz.prog.bytesOf 135 = 40 := by kernel_rfl
theorem c136 : Tryz.prog.cellsOf 136 = 1 := by kernel_rfl
theorem by136 : Tryz.prog.bytesOf 136 = 8 := by kernel_rfl
theorem c137 : Tryz.prog.cellsOf 137 = 1 := by kernel_rfl
theorem by137 : Tryz.prog.bytesOf 137 = 8 := by kernel_rfl
theorem c138 : Tryz.prog.cellsOf 138 = 1 := by kernel_rfl
theorem by138 : Tryz.prog.bytesOf 138 = 8 := by kernel_rfl
theorem c139 : Tryz.prog.cellsOf 139 = 1 := by kernel_rfl
theorem by139 : Tryz.prog.bytesOf 139 = 8 := by kernel_rfl
theorem c140 : Tryz.prog.cellsOf 140 = 1 := by kernel_rfl
theorem by140 : Tryz.prog.bytesOf 140 = 8 := by kernel_rfl
theorem c141 : Tryz.prog.cellsOf 141 = 2 := by kernel_rfl
theorem by141 : Tryz.prog.bytesOf 141 = 32 := by kernel_rfl
theorem c142 : Tryz.prog.cellsOf 142 = 2 := by kernel_rfl
theorem by142 : Tryz.prog.bytesOf 142 = 32 := by kernel_rfl
theorem c143 : Tryz.prog.cellsOf 143 = 1 := by kernel_rfl
theorem by143 : Tryz.prog.bytesOf 143 = 0 := by kernel_rfl
theorem c144 : Tryz.prog.cellsOf 144 = 1 := by kernel_rfl
theorem by144 : Tryz.prog.bytesOf 144 = 8 := by kernel_rfl
theorem c145 : Tryz.prog.cellsOf 145 = 1 := by kernel_rfl
theorem by145 : Tryz.prog.bytesOf 145 = 8 := by kernel_rfl
theorem c146 : Tryz.prog.cellsOf 146 = 1 := by kernel_rfl
theorem by146 : Tryz.prog.bytesOf 146 = 0 := by kernel_rfl
theorem c147 : Tryz.prog.cellsOf 147 = 1 := by kernel_rfl
theorem by147 : Tryz.prog.bytesOf 147 = 8 := by kernel_rfl
theorem c148 : Tryz.prog.cellsOf 148 = 1 := by kernel_rfl
theorem by148 : Tryz.prog.bytesOf 148 = 0 := by kernel_rfl
theorem c149 : Tryz.prog.cellsOf 149 = 1 := by kernel_rfl
theorem by149 : Tryz.prog.bytesOf 149 = 8 := by kernel_rfl
theorem c150 : Tryz.prog.cellsOf 150 = 1 := by kernel_rfl
theorem by150 : Tryz.prog.bytesOf 150 = 0 := by kernel_rfl
theorem c151 : Tryz.prog.cellsOf 151 = 1 := by kernel_rfl
theorem by151 : Tryz.prog.bytesOf 151 = 8 := by kernel_rfl
theorem c152 : Tryz.prog.cellsOf 152 = 1 := by kernel_rfl
theorem by152 : Tryz.prog.bytesOf 152 = 8 := by kernel_rfl
theorem c153 : Tryz.prog.cellsOf 153 = 139 := by kernel_rfl
theorem by153 : Tryz.prog.bytesOf 153 = 312 := by kernel_rfl
theorem c154 : Tryz.prog.cellsOf 154 = 139 := by kernel_rfl
theorem by154 : Tryz.prog.bytesOf 154 = 312 := by kernel_rfl
theorem c155 : Tryz.prog.cellsOf 155 = 1 := by kernel_rfl
theorem by155 : Tryz.prog.bytesOf 155 = 8 := by kernel_rfl
theorem c156 : Tryz.prog.cellsOf 156 = 1 := by kernel_rfl
theorem by156 : Tryz.prog.bytesOf 156 = 8 := by kernel_rfl
theorem c157 : Tryz.prog.cellsOf 157 = 1 := by kernel_rfl
theorem by157 : Tryz.prog.bytesOf 157 = 0 := by kernel_rfl
theorem c158 : Tryz.prog.cellsOf 158 = 1 := by kernel_rfl
theorem by158 : Tryz.prog.bytesOf 158 = 8 := by kernel_rfl
theorem c159 : Tryz.prog.cellsOf 159 = 1 := by kernel_rfl
theorem by159 : Tryz.prog.bytesOf 159 = 8 := by kernel_rfl
theorem c160 : Tryz.prog.cellsOf 160 = 72 := by kernel_rfl
theorem by160 : Tryz.prog.bytesOf 160 = 192 := by kernel_rfl
theorem c161 : Tryz.prog.cellsOf 161 = 72 := by kernel_rfl
theorem by161 : Tryz.prog.bytesOf 161 = 192 := by kernel_rfl
theorem c162 : Tryz.prog.cellsOf 162 = 1 := by kernel_rfl
theorem by162 : Tryz.prog.bytesOf 162 = 0 := by kernel_rfl
theorem c163 : Tryz.prog.cellsOf 163 = 1 := by kernel_rfl
theorem by163 : Tryz.prog.bytesOf 163 = 8 := by kernel_rfl
theorem c164 : Tryz.prog.cellsOf 164 = 1 := by kernel_rfl
theorem by164 : Tryz.prog.bytesOf 164 = 8 := by kernel_rfl
theorem c165 : Tryz.prog.cellsOf 165 = 1 := by kernel_rfl
theorem by165 : Tryz.prog.bytesOf 165 = 8 := by kernel_rfl
theorem c166 : Tryz.prog.cellsOf 166 = 1 := by kernel_rfl
theorem by166 : Tryz.prog.bytesOf 166 = 24 := by kernel_rfl
theorem c167 : Tryz.prog.cellsOf 167 = 1 := by kernel_rfl
theorem by167 : Tryz.prog.bytesOf 167 = 8 := by kernel_rfl
theorem c168 : Tryz.prog.cellsOf 168 = 1 := by kernel_rfl
theorem by168 : Tryz.prog.bytesOf 168 = 0 := by kernel_rfl
theorem c169 : Tryz.prog.cellsOf 169 = 1 := by kernel_rfl
theorem by169 : Tryz.prog.bytesOf 169 = 8 := by kernel_rfl
theorem c170 : Tryz.prog.cellsOf 170 = 1 := by kernel_rfl
theorem by170 : Tryz.prog.bytesOf 170 = 8 := by kernel_rfl
theorem c171 : Tryz.prog.cellsOf 171 = 1 := by kernel_rfl
theorem by171 : Tryz.prog.bytesOf 171 = 8 := by kernel_rfl
theorem c172 : Tryz.prog.cellsOf 172 = 1 := by kernel_rfl
theorem by172 : Tryz.prog.bytesOf 172 = 0 := by kernel_rfl
theorem c173 : Tryz.prog.cellsOf 173 = 1 := by kernel_rfl
theorem by173 : Tryz.prog.bytesOf 173 = 8 := by kernel_rfl
theorem c174 : Tryz.prog.cellsOf 174 = 1 := by kernel_rfl
theorem by174 : Tryz.prog.bytesOf 174 = 0 := by kernel_rfl
theorem c175 : Tryz.prog.cellsOf 175 = 1 := by kernel_rfl
theorem by175 : Tryz.prog.bytesOf 175 = 8 := by kernel_rfl
theorem c176 : Tryz.prog.cellsOf 176 = 1 := by kernel_rfl
theorem by176 : Tryz.prog.bytesOf 176 = 8 := by kernel_rfl
theorem c177 : Tryz.prog.cellsOf 177 = 1 := by kernel_rfl
theorem by177 : Tryz.prog.bytesOf 177 = 8 := by kernel_rfl
theorem c178 : Tryz.prog.cellsOf 178 = 1 := by kernel_rfl
theorem by178 : Tryz.prog.bytesOf 178 = 8 := by kernel_rfl
theorem c179 : Tryz.prog.cellsOf 179 = 1 := by kernel_rfl
theorem by179 : Tryz.prog.bytesOf 179 = 8 := by kernel_rfl
theorem c180 : Tryz.prog.cellsOf 180 = 1 := by kernel_rfl
theorem by180 : Tryz.prog.bytesOf 180 = 8 := by kernel_rfl
theorem c181 : Tryz.prog.cellsOf 181 = 1 := by kernel_rfl
theorem by181 : Tryz.prog.bytesOf 181 = 24 := by kernel_rfl
theorem c182 : Tryz.prog.cellsOf 182 = 1 := by kernel_rfl
theorem by182 : Tryz.prog.bytesOf 182 = 8 := by kernel_rfl
theorem c183 : Tryz.prog.cellsOf 183 = 1 := by kernel_rfl
theorem by183 : Tryz.prog.bytesOf 183 = 8 := by kernel_rfl
theorem c184 : Tryz.prog.cellsOf 184 = 1 := by kernel_rfl
theorem by184 : Tryz.prog.bytesOf 184 = 8 := by kernel_rfl
theorem c185 : Tryz.prog.cellsOf 185 = 1 := by kernel_rfl
theorem by185 : Tryz.prog.bytesOf 185 = 8 := by kernel_rfl
theorem c186 : Tryz.prog.cellsOf 186 = 1 := by kernel_rfl
theorem by186 : Tryz.prog.bytesOf 186 = 8 := by kernel_rfl
theorem c187 : Tryz.prog.cellsOf 187 = 1 := by kernel_rfl
theorem by187 : Tryz.prog.bytesOf 187 = 8 := by kernel_rfl
theorem c188 : Tryz.prog.cellsOf 188 = 1 := by kernel_rfl
theorem by188 : Tryz.prog.bytesOf 188 = 8 := by kernel_rfl
theorem c189 : Tryz.prog.cellsOf 189 = 1 := by kernel_rfl
theorem by189 : Tryz.prog.bytesOf 189 = 8 := by kernel_rfl
theorem c190 : Tryz.prog.cellsOf 190 = 1 := by kernel_rfl
theorem by190 : Tryz.prog.bytesOf 190 = 8 := by kernel_rfl
theorem c191 : Tryz.prog.cellsOf 191 = 1 := by kernel_rfl
theorem by191 : Tryz.prog.bytesOf 191 = 8 := by kernel_rfl
theorem c192 : Tryz.prog.cellsOf 192 = 1 := by kernel_rfl
theorem by192 : Tryz.prog.bytesOf 192 = 8 := by kernel_rfl
theorem c193 : Tryz.prog.cellsOf 193 = 1 := by kernel_rfl
theorem by193 : Tryz.prog.bytesOf 193 = 8 := by kernel_rfl
theorem c194 : Tryz.prog.cellsOf 194 = 1 := by kernel_rfl
theorem by194 : Tryz.prog.bytesOf 194 = 0 := by kernel_rfl
theorem c195 : Tryz.prog.cellsOf 195 = 1 := by kernel_rfl
theorem by195 : Tryz.prog.bytesOf 195 = 8 := by kernel_rfl
theorem c196 : Tryz.prog.cellsOf 196 = 1 := by kernel_rfl
theorem by196 : Tryz.prog.bytesOf 196 = 8 := by kernel_rfl
theorem c197 : Tryz.prog.cellsOf 197 = 1 := by kernel_rfl
theorem by197 : Tryz.prog.bytesOf 197 = 8 := by kernel_rfl
theorem c198 : Tryz.prog.cellsOf 198 = 1 := by kernel_rfl
theorem by198 : Tryz.prog.bytesOf 198 = 8 := by kernel_rfl
theorem c199 : Tryz.prog.cellsOf 199 = 1 := by kernel_rfl
theorem by199 : Tryz.prog.bytesOf 199 = 8 := by kernel_rfl
theorem c200 : Tryz.prog.cellsOf 200 = 1 := by kernel_rfl
theorem by200 : Tryz.prog.bytesOf 200 = 0 := by kernel_rfl
theorem c201 : Tryz.prog.cellsOf 201 = 1 := by kernel_rfl
theorem by201 : Tryz.prog.bytesOf 201 = 8 := by kernel_rfl
theorem c202 : Tryz.prog.cellsOf 202 = 1 := by kernel_rfl
theorem by202 : Tryz.prog.bytesOf 202 = 8 := by kernel_rfl
theorem c203 : Tryz.prog.cellsOf 203 = 1 := by kernel_rfl
theorem by203 : Tryz.prog.bytesOf 203 = 8 := by kernel_rfl
theorem c204 : Tryz.prog.cellsOf 204 = 1 := by kernel_rfl
theorem by204 : Tryz.prog.bytesOf 204 = 8 := by kernel_rfl
theorem c205 : Tryz.prog.cellsOf 205 = 1 := by kernel_rfl
theorem by205 : Tryz.prog.bytesOf 205 = 8 := by kernel_rfl
theorem c206 : Tryz.prog.cellsOf 206 = 1 := by kernel_rfl
theorem by206 : Tryz.prog.bytesOf 206 = 8 := by kernel_rfl
theorem c207 : Tryz.prog.cellsOf 207 = 1 := by kernel_rfl
theorem by207 : Tryz.prog.bytesOf 207 = 8 := by kernel_rfl
theorem c208 : Tryz.prog.cellsOf 208 = 1 := by kernel_rfl
theorem by208 : Tryz.prog.bytesOf 208 = 16 := by kernel_rfl
theorem c209 : Tryz.prog.cellsOf 209 = 1 := by kernel_rfl
theorem by209 : Tryz.prog.bytesOf 209 = 16 := by kernel_rfl
theorem c210 : Tryz.prog.cellsOf 210 = 2 := by kernel_rfl
theorem by210 : Tryz.prog.bytesOf 210 = 24 := by kernel_rfl
theorem c211 : Tryz.prog.cellsOf 211 = 2 := by kernel_rfl
theorem by211 : Tryz.prog.bytesOf 211 = 24 := by kernel_rfl
theorem c212 : Tryz.prog.cellsOf 212 = 1 := by kernel_rfl
theorem by212 : Tryz.prog.bytesOf 212 = 8 := by kernel_rfl
theorem c213 : Tryz.prog.cellsOf 213 = 1 := by kernel_rfl
theorem by213 : Tryz.prog.bytesOf 213 = 8 := by kernel_rfl
theorem c214 : Tryz.prog.cellsOf 214 = 1 := by kernel_rfl
theorem by214 : Tryz.prog.bytesOf 214 = 8 := by kernel_rfl
theorem c215 : Tryz.prog.cellsOf 215 = 1 := by kernel_rfl
theorem by215 : Tryz.prog.bytesOf 215 = 8 := by kernel_rfl
theorem c216 : Tryz.prog.cellsOf 216 = 1 := by kernel_rfl
theorem by216 : Tryz.prog.bytesOf 216 = 8 := by kernel_rfl
theorem c217 : Tryz.prog.cellsOf 217 = 1 := by kernel_rfl
theorem by217 : Tryz.prog.bytesOf 217 = 0 := by kernel_rfl
theorem c218 : Tryz.prog.cellsOf 218 = 1 := by kernel_rfl
theorem by218 : Tryz.prog.bytesOf 218 = 8 := by kernel_rfl
theorem c219 : Tryz.prog.cellsOf 219 = 65 := by kernel_rfl
theorem by219 : Tryz.prog.bytesOf 219 = 88 := by kernel_rfl
theorem c220 : Tryz.prog.cellsOf 220 = 65 := by kernel_rfl
theorem by220 : Tryz.prog.bytesOf 220 = 88 := by kernel_rfl
theorem c221 : Tryz.prog.cellsOf 221 = 1 := by kernel_rfl
theorem by221 : Tryz.prog.bytesOf 221 = 8 := by kernel_rfl
theorem c222 : Tryz.prog.cellsOf 222 = 1 := by kernel_rfl
theorem by222 : Tryz.prog.bytesOf 222 = 8 := by kernel_rfl
theorem c223 : Tryz.prog.cellsOf 223 = 1 := by kernel_rfl
theorem by223 : Tryz.prog.bytesOf 223 = 24 := by kernel_rfl
theorem c224 : Tryz.prog.cellsOf 224 = 35 := by kernel_rfl
theorem by224 : Tryz.prog.bytesOf 224 = 72 := by kernel_rfl
theorem c225 : Tryz.prog.cellsOf 225 = 35 := by kernel_rfl
theorem by225 : Tryz.prog.bytesOf 225 = 72 := by kernel_rfl
theorem c226 : Tryz.prog.cellsOf 226 = 1 := by kernel_rfl
theorem by226 : Tryz.prog.bytesOf 226 = 8 := by kernel_rfl
theorem c227 : Tryz.prog.cellsOf 227 = 1 := by kernel_rfl
theorem by227 : Tryz.prog.bytesOf 227 = 0 := by kernel_rfl
theorem c228 : Tryz.prog.cellsOf 228 = 1 := by kernel_rfl
theorem by228 : Tryz.prog.bytesOf 228 = 8 := by kernel_rfl
theorem c229 : Tryz.prog.cellsOf 229 = 34 := by kernel_rfl
theorem by229 : Tryz.prog.bytesOf 229 = 80 := by kernel_rfl
theorem c230 : Tryz.prog.cellsOf 230 = 34 := by kernel_rfl
theorem by230 : Tryz.prog.bytesOf 230 = 80 := by kernel_rfl
theorem c231 : Tryz.prog.cellsOf 231 = 1 := by kernel_rfl
theorem by231 : Tryz.prog.bytesOf 231 = 8 := by kernel_rfl
theorem c232 : Tryz.prog.cellsOf 232 = 1 := by kernel_rfl
theorem by232 : Tryz.prog.bytesOf 232 = 8 := by kernel_rfl
theorem c233 : Tryz.prog.cellsOf 233 = 1 := by kernel_rfl
theorem by233 : Tryz.prog.bytesOf 233 = 8 := by kernel_rfl
theorem c234 : Tryz.prog.cellsOf 234 = 1 := by kernel_rfl
theorem by234 : Tryz.prog.bytesOf 234 = 8 := by kernel_rfl
theorem c235 : Tryz.prog.cellsOf 235 = 1 := by kernel_rfl
theorem by235 : Tryz.prog.bytesOf 235 = 8 := by kernel_rfl
theorem c236 : Tryz.prog.cellsOf 236 = 1 := by kernel_rfl
theorem by236 : Tryz.prog.bytesOf 236 = 8 := by kernel_rfl
theorem c237 : Tryz.prog.cellsOf 237 = 1 := by kernel_rfl
theorem by237 : Tryz.prog.bytesOf 237 = 8 := by kernel_rfl
theorem c238 : Tryz.prog.cellsOf 238 = 1 := by kernel_rfl
theorem by238 : Tryz.prog.bytesOf 238 = 24 := by kernel_rfl
theorem c239 : Tryz.prog.cellsOf 239 = 4 := by kernel_rfl
theorem by239 : Tryz.prog.bytesOf 239 = 64 := by kernel_rfl
theorem c240 : Tryz.prog.cellsOf 240 = 4 := by kernel_rfl
theorem by240 : Tryz.prog.bytesOf 240 = 64 := by kernel_rfl
theorem c241 : Tryz.prog.cellsOf 241 = 1 := by kernel_rfl
theorem by241 : Tryz.prog.bytesOf 241 = 24 := by kernel_rfl
theorem c242 : Tryz.prog.cellsOf 242 = 3 := by kernel_rfl
theorem by242 : Tryz.prog.bytesOf 242 = 40 := by kernel_rfl
theorem c243 : Tryz.prog.cellsOf 243 = 3 := by kernel_rfl
theorem by243 : Tryz.prog.bytesOf 243 = 40 := by kernel_rfl
theorem c244 : Tryz.prog.cellsOf 244 = 1 := by kernel_rfl
theorem by244 : Tryz.prog.bytesOf 244 = 8 := by kernel_rfl
theorem c245 : Tryz.prog.cellsOf 245 = 1 := by kernel_rfl
theorem by245 : Tryz.prog.bytesOf 245 = 24 := by kernel_rfl
theorem c246 : Tryz.prog.cellsOf 246 = 1 := by kernel_rfl
theorem by246 : Tryz.prog.bytesOf 246 = 24 := by kernel_rfl
theorem c247 : Tryz.prog.cellsOf 247 = 1 := by kernel_rfl
theorem by247 : Tryz.prog.bytesOf 247 = 8 := by kernel_rfl
theorem c248 : Tryz.prog.cellsOf 248 = 1 := by kernel_rfl
theorem by248 : Tryz.prog.bytesOf 248 = 8 := by kernel_rfl
theorem c249 : Tryz.prog.cellsOf 249 = 1 := by kernel_rfl
theorem by249 : Tryz.prog.bytesOf 249 = 8 := by kernel_rfl
theorem c250 : Tryz.prog.cellsOf 250 = 1 := by kernel_rfl
theorem by250 : Tryz.prog.bytesOf 250 = 8 := by kernel_rfl
theorem c251 : Tryz.prog.cellsOf 251 = 1 := by kernel_rfl
theorem by251 : Tryz.prog.bytesOf 251 = 8 := by kernel_rfl
theorem c252 : Tryz.prog.cellsOf 252 = 1 := by kernel_rfl
theorem by252 : Tryz.prog.bytesOf 252 = 8 := by kernel_rfl
theorem c253 : Tryz.prog.cellsOf 253 = 1 := by kernel_rfl
theorem by253 : Tryz.prog.bytesOf 253 = 8 := by kernel_rfl
theorem c254 : Tryz.prog.cellsOf 254 = 1 := by kernel_rfl
theorem by254 : Tryz.prog.bytesOf 254 = 0 := by kernel_rfl
theorem c255 : Tryz.prog.cellsOf 255 = 1 := by kernel_rfl
theorem by255 : Tryz.prog.bytesOf 255 = 8 := by kernel_rfl
theorem c256 : Tryz.prog.cellsOf 256 = 1 := by kernel_rfl
theorem by256 : Tryz.prog.bytesOf 256 = 8 := by kernel_rfl
theorem c257 : Tryz.prog.cellsOf 257 = 1 := by kernel_rfl
theorem by257 : Tryz.prog.bytesOf 257 = 8 := by kernel_rfl
theorem c258 : Tryz.prog.cellsOf 258 = 1 := by kernel_rfl
theorem by258 : Tryz.prog.bytesOf 258 = 8 := by kernel_rfl
theorem c259 : Tryz.prog.cellsOf 259 = 1 := by kernel_rfl
theorem by259 : Tryz.prog.bytesOf 259 = 8 := by kernel_rfl
theorem c260 : Tryz.prog.cellsOf 260 = 1 := by kernel_rfl
theorem by260 : Tryz.prog.bytesOf 260 = 8 := by kernel_rfl
theorem c261 : Tryz.prog.cellsOf 261 = 1 := by kernel_rfl
theorem by261 : Tryz.prog.bytesOf 261 = 8 := by kernel_rfl
theorem c262 : Tryz.prog.cellsOf 262 = 1 := by kernel_rfl
theorem by262 : Tryz.prog.bytesOf 262 = 8 := by kernel_rfl
theorem c263 : Tryz.prog.cellsOf 263 = 1 := by kernel_rfl
theorem by263 : Tryz.prog.bytesOf 263 = 8 := by kernel_rfl
theorem c264 : Tryz.prog.cellsOf 264 = 1 := by kernel_rfl
theorem by264 : Tryz.prog.bytesOf 264 = 8 := by kernel_rfl
theorem c265 : Tryz.prog.cellsOf 265 = 1 := by kernel_rfl
theorem by265 : Tryz.prog.bytesOf 265 = 8 := by kernel_rfl
theorem c266 : Tryz.prog.cellsOf 266 = 1 := by kernel_rfl
theorem by266 : Tryz.prog.bytesOf 266 = 8 := by kernel_rfl
theorem c267 : Tryz.prog.cellsOf 267 = 1 := by kernel_rfl
theorem by267 : Tryz.prog.bytesOf 267 = 8 := by kernel_rfl
theorem c268 : Tryz.prog.cellsOf 268 = 1 := by kernel_rfl
theorem by268 : Tryz.prog.bytesOf 268 = 8 := by kernel_rfl
theorem c269 : Tryz.prog.cellsOf 269 = 1 := by kernel_rfl
theorem by269 : Tryz.prog.bytesOf 269 = 8 := by kernel_rfl
theorem c270 : Tryz.prog.cellsOf 270 = 1 := by kernel_rfl
theorem by270 : Tryz.prog.bytesOf 270 = 8 := by kernel_rfl
theorem c271 : Tryz.prog.cellsOf 271 = 1 := by kernel_rfl
theorem by271 : Tryz.prog.bytesOf 271 = 8 := by kernel_rfl
theorem c272 : Tryz.prog.cellsOf 272 = 1 := by kernel_rfl
theorem by272 : Tryz.prog.bytesOf 272 = 8 := by kernel_rfl
theorem c273 : Tryz.prog.cellsOf 273 = 1 := by kernel_rfl
theorem by273 : Tryz.prog.bytesOf 273 = 8 := by kernel_rfl
theorem c274 : Tryz.prog.cellsOf 274 = 1 := by kernel_rfl
theorem by274 : Tryz.prog.bytesOf 274 = 8 := by kernel_rfl
theorem c275 : Tryz.prog.cellsOf 275 = 1 := by kernel_rfl
theorem by275 : Tryz.prog.bytesOf 275 = 8 := by kernel_rfl
theorem c276 : Tryz.prog.cellsOf 276 = 1 := by kernel_rfl
theorem by276 : Tryz.prog.bytesOf 276 = 8 := by kernel_rfl
theorem c277 : Tryz.prog.cellsOf 277 = 1 := by kernel_rfl
theorem by277 : Tryz.prog.bytesOf 277 = 8 := by kernel_rfl
theorem c278 : Tryz.prog.cellsOf 278 = 1 := by kernel_rfl
theorem by278 : Tryz.prog.bytesOf 278 = 8 := by kernel_rfl
theorem c279 : Tryz.prog.cellsOf 279 = 1 := by kernel_rfl
theorem by279 : Tryz.prog.bytesOf 279 = 8 := by kernel_rfl
theorem c280 : Tryz.prog.cellsOf 280 = 1 := by kernel_rfl
theorem by280 : Tryz.prog.bytesOf 280 = 8 := by kernel_rfl
theorem c281 : Tryz.prog.cellsOf 281 = 1 := by kernel_rfl
theorem by281 : Tryz.prog.bytesOf 281 = 8 := by kernel_rfl
theorem c282 : Tryz.prog.cellsOf 282 = 1 := by kernel_rfl
theorem by282 : Tryz.prog.bytesOf 282 = 8 := by kernel_rfl
theorem c283 : Tryz.prog.cellsOf 283 = 1 := by kernel_rfl
theorem by283 : Tryz.prog.bytesOf 283 = 8 := by kernel_rfl
theorem c284 : Tryz.prog.cellsOf 284 = 1 := by kernel_rfl
theorem by284 : Tryz.prog.bytesOf 284 = 8 := by kernel_rfl
theorem c285 : Tryz.prog.cellsOf 285 = 1 := by kernel_rfl
theorem by285 : Tryz.prog.bytesOf 285 = 8 := by kernel_rfl
theorem c286 : Tryz.prog.cellsOf 286 = 1 := by kernel_rfl
theorem by286 : Tryz.prog.bytesOf 286 = 8 := by kernel_rfl
theorem c287 : Tryz.prog.cellsOf 287 = 1 := by kernel_rfl
theorem by287 : Tryz.prog.bytesOf 287 = 8 := by kernel_rfl
theorem c288 : Tryz.prog.cellsOf 288 = 1 := by kernel_rfl
theorem by288 : Tryz.prog.bytesOf 288 = 0 := by kernel_rfl
theorem c289 : Tryz.prog.cellsOf 289 = 1 := by kernel_rfl
theorem by289 : Tryz.prog.bytesOf 289 = 8 := by kernel_rfl
theorem c290 : Tryz.prog.cellsOf 290 = 1 := by kernel_rfl
theorem by290 : Tryz.prog.bytesOf 290 = 8 := by kernel_rfl
theorem c291 : Tryz.prog.cellsOf 291 = 1 := by kernel_rfl
theorem by291 : Tryz.prog.bytesOf 291 = 8 := by kernel_rfl
theorem c292 : Tryz.prog.cellsOf 292 = 1 := by kernel_rfl
theorem by292 : Tryz.prog.bytesOf 292 = 8 := by kernel_rfl
theorem c293 : Tryz.prog.cellsOf 293 = 1 := by kernel_rfl
theorem by293 : Tryz.prog.bytesOf 293 = 8 := by kernel_rfl
theorem c294 : Tryz.prog.cellsOf 294 = 1 := by kernel_rfl
theorem by294 : Tryz.prog.bytesOf 294 = 8 := by kernel_rfl
theorem c295 : Tryz.prog.cellsOf 295 = 3 := by kernel_rfl
theorem by295 : Tryz.prog.bytesOf 295 = 24 := by kernel_rfl
theorem c296 : Tryz.prog.cellsOf 296 = 3 := by kernel_rfl
theorem by296 : Tryz.prog.bytesOf 296 = 24 := by kernel_rfl
theorem c297 : Tryz.prog.cellsOf 297 = 1 := by kernel_rfl
theorem by297 : Tryz.prog.bytesOf 297 = 8 := by kernel_rfl
theorem c298 : Tryz.prog.cellsOf 298 = 1 := by kernel_rfl
theorem by298 : Tryz.prog.bytesOf 298 = 8 := by kernel_rfl
theorem c299 : Tryz.prog.cellsOf 299 = 1 := by kernel_rfl
theorem by299 : Tryz.prog.bytesOf 299 = 8 := by kernel_rfl
theorem c300 : Tryz.prog.cellsOf 300 = 1 := by kernel_rfl
theorem by300 : Tryz.prog.bytesOf 300 = 8 := by kernel_rfl
theorem c301 : Tryz.prog.cellsOf 301 = 1 := by kernel_rfl
theorem by301 : Tryz.prog.bytesOf 301 = 8 := by kernel_rfl
theorem c302 : Tryz.prog.cellsOf 302 = 1 := by kernel_rfl
theorem by302 : Tryz.prog.bytesOf 302 = 8 := by kernel_rfl
theorem c303 : Tryz.prog.cellsOf 303 = 1 := by kernel_rfl
theorem by303 : Tryz.prog.bytesOf 303 = 8 := by kernel_rfl
theorem c304 : Tryz.prog.cellsOf 304 = 1 := by kernel_rfl
theorem by304 : Tryz.prog.bytesOf 304 = 8 := by kernel_rfl
theorem c305 : Tryz.prog.cellsOf 305 = 1 := by kernel_rfl
theorem by305 : Tryz.prog.bytesOf 305 = 8 := by kernel_rfl
theorem c306 : Tryz.prog.cellsOf 306 = 1 := by kernel_rfl
theorem by306 : Tryz.prog.bytesOf 306 = 8 := by kernel_rfl
theorem c307 : Tryz.prog.cellsOf 307 = 1 := by kernel_rfl
theorem by307 : Tryz.prog.bytesOf 307 = 8 := by kernel_rfl
theorem c308 : Tryz.prog.cellsOf 308 = 1 := by kernel_rfl
theorem by308 : Tryz.prog.bytesOf 308 = 8 := by kernel_rfl
theorem c309 : Tryz.prog.cellsOf 309 = 1 := by kernel_rfl
theorem by309 : Tryz.prog.bytesOf 309 = 8 := by kernel_rfl
theorem c310 : Tryz.prog.cellsOf 310 = 1 := by kernel_rfl
theorem by310 : Tryz.prog.bytesOf 310 = 8 := by kernel_rfl
theorem c311 : Tryz.prog.cellsOf 311 = 1 := by kernel_rfl
theorem by311 : Tryz.prog.bytesOf 311 = 8 := by kernel_rfl
theorem c312 : Tryz.prog.cellsOf 312 = 1 := by kernel_rfl
theorem by312 : Tryz.prog.bytesOf 312 = 8 := by kernel_rfl
theorem c313 : Tryz.prog.cellsOf 313 = 1 := by kernel_rfl
theorem by313 : Tryz.prog.bytesOf 313 = 8 := by kernel_rfl
theorem c314 : Tryz.prog.cellsOf 314 = 1 := by kernel_rfl
theorem by314 : Tryz.prog.bytesOf 314 = 8 := by kernel_rfl
theorem c315 : Tryz.prog.cellsOf 315 = 1 := by kernel_rfl
theorem by315 : Tryz.prog.bytesOf 315 = 8 := by kernel_rfl
theorem c316 : Tryz.prog.cellsOf 316 = 1 := by kernel_rfl
theorem by316 : Tryz.prog.bytesOf 316 = 8 := by kernel_rfl
theorem c317 : Tryz.prog.cellsOf 317 = 1 := by kernel_rfl
theorem by317 : Tryz.prog.bytesOf 317 = 8 := by kernel_rfl
theorem c318 : Tryz.prog.cellsOf 318 = 1 := by kernel_rfl
theorem by318 : Tryz.prog.bytesOf 318 = 8 := by kernel_rfl
theorem c319 : Tryz.prog.cellsOf 319 = 1 := by kernel_rfl
theorem by319 : Tryz.prog.bytesOf 319 = 8 := by kernel_rfl
theorem c320 : Tryz.prog.cellsOf 320 = 1 := by kernel_rfl
theorem by320 : Tryz.prog.bytesOf 320 = 8 := by kernel_rfl
theorem c321 : Tryz.prog.cellsOf 321 = 1 := by kernel_rfl
theorem by321 : Tryz.prog.bytesOf 321 = 8 := by kernel_rfl
theorem c322 : Tryz.prog.cellsOf 322 = 1 := by kernel_rfl
theorem by322 : Tryz.prog.bytesOf 322 = 8 := by kernel_rfl
theorem c323 : Tryz.prog.cellsOf 323 = 1 := by kernel_rfl
theorem by323 : Tryz.prog.bytesOf 323 = 8 := by kernel_rfl
theorem c324 : Tryz.prog.cellsOf 324 = 1 := by kernel_rfl
theorem by324 : Tryz.prog.bytesOf 324 = 8 := by kernel_rfl
theorem c325 : Tryz.prog.cellsOf 325 = 1 := by kernel_rfl
theorem by325 : Tryz.prog.bytesOf 325 = 8 := by kernel_rfl
theorem c326 : Tryz.prog.cellsOf 326 = 1 := by kernel_rfl
theorem by326 : Tryz.prog.bytesOf 326 = 8 := by kernel_rfl
theorem c327 : Tryz.prog.cellsOf 327 = 1 := by kernel_rfl
theorem by327 : Tryz.prog.bytesOf 327 = 8 := by kernel_rfl
theorem c328 : Tryz.prog.cellsOf 328 = 1 := by kernel_rfl
theorem by328 : Tryz.prog.bytesOf 328 = 8 := by kernel_rfl
theorem c329 : Tryz.prog.cellsOf 329 = 1 := by kernel_rfl
theorem by329 : Tryz.prog.bytesOf 329 = 8 := by kernel_rfl
theorem c330 : Tryz.prog.cellsOf 330 = 1 := by kernel_rfl
theorem by330 : Tryz.prog.bytesOf 330 = 8 := by kernel_rfl
theorem c331 : Tryz.prog.cellsOf 331 = 1 := by kernel_rfl
theorem by331 : Tryz.prog.bytesOf 331 = 8 := by kernel_rfl
theorem c332 : Tryz.prog.cellsOf 332 = 1 := by kernel_rfl
theorem by332 : Tryz.prog.bytesOf 332 = 8 := by kernel_rfl
theorem c333 : Tryz.prog.cellsOf 333 = 1 := by kernel_rfl
theorem by333 : Tryz.prog.bytesOf 333 = 8 := by kernel_rfl
theorem c334 : Tryz.prog.cellsOf 334 = 1 := by kernel_rfl
theorem by334 : Tryz.prog.bytesOf 334 = 8 := by kernel_rfl
theorem c335 : Tryz.prog.cellsOf 335 = 1 := by kernel_rfl
theorem by335 : Tryz.prog.bytesOf 335 = 8 := by kernel_rfl
theorem c336 : Tryz.prog.cellsOf 336 = 1 := by kernel_rfl
theorem by336 : Tryz.prog.bytesOf 336 = 8 := by kernel_rfl
theorem c337 : Tryz.prog.cellsOf 337 = 1 := by kernel_rfl
theorem by337 : Tryz.prog.bytesOf 337 = 8 := by kernel_rfl
theorem c338 : Tryz.prog.cellsOf 338 = 1 := by kernel_rfl
theorem by338 : Tryz.prog.bytesOf 338 = 8 := by kernel_rfl
theorem c339 : Tryz.prog.cellsOf 339 = 35 := by kernel_rfl
theorem by339 : Tryz.prog.bytesOf 339 = 56 := by kernel_rfl
theorem c340 : Tryz.prog.cellsOf 340 = 35 := by kernel_rfl
theorem by340 : Tryz.prog.bytesOf 340 = 56 := by kernel_rfl
theorem c341 : Tryz.prog.cellsOf 341 = 1 := by kernel_rfl
theorem by341 : Tryz.prog.bytesOf 341 = 8 := by kernel_rfl
theorem c342 : Tryz.prog.cellsOf 342 = 1 := by kernel_rfl
theorem by342 : Tryz.prog.bytesOf 342 = 8 := by kernel_rfl
theorem c343 : Tryz.prog.cellsOf 343 = 1 := by kernel_rfl
theorem by343 : Tryz.prog.bytesOf 343 = 8 := by kernel_rfl
theorem c344 : Tryz.prog.cellsOf 344 = 1 := by kernel_rfl
theorem by344 : Tryz.prog.bytesOf 344 = 0 := by kernel_rfl
theorem c345 : Tryz.prog.cellsOf 345 = 1 := by kernel_rfl
theorem by345 : Tryz.prog.bytesOf 345 = 8 := by kernel_rfl
theorem c346 : Tryz.prog.cellsOf 346 = 1 := by kernel_rfl
theorem by346 : Tryz.prog.bytesOf 346 = 8 := by kernel_rfl
theorem c347 : Tryz.prog.cellsOf 347 = 1 := by kernel_rfl
theorem by347 : Tryz.prog.bytesOf 347 = 8 := by kernel_rfl
theorem c348 : Tryz.prog.cellsOf 348 = 1 := by kernel_rfl
theorem by348 : Tryz.prog.bytesOf 348 = 8 := by kernel_rfl
theorem c349 : Tryz.prog.cellsOf 349 = 1 := by kernel_rfl
theorem by349 : Tryz.prog.bytesOf 349 = 8 := by kernel_rfl
theorem c350 : Tryz.prog.cellsOf 350 = 1 := by kernel_rfl
theorem by350 : Tryz.prog.bytesOf 350 = 0 := by kernel_rfl
theorem c351 : Tryz.prog.cellsOf 351 = 1 := by kernel_rfl
theorem by351 : Tryz.prog.bytesOf 351 = 8 := by kernel_rfl
theorem c352 : Tryz.prog.cellsOf 352 = 1 := by kernel_rfl
theorem by352 : Tryz.prog.bytesOf 352 = 8 := by kernel_rfl
theorem c353 : Tryz.prog.cellsOf 353 = 1 := by kernel_rfl
theorem by353 : Tryz.prog.bytesOf 353 = 8 := by kernel_rfl
theorem c354 : Tryz.prog.cellsOf 354 = 1 := by kernel_rfl
theorem by354 : Tryz.prog.bytesOf 354 = 8 := by kernel_rfl
theorem c355 : Tryz.prog.cellsOf 355 = 1 := by kernel_rfl
theorem by355 : Tryz.prog.bytesOf 355 = 8 := by kernel_rfl
theorem c356 : Tryz.prog.cellsOf 356 = 1 := by kernel_rfl
theorem by356 : Tryz.prog.bytesOf 356 = 8 := by kernel_rfl
theorem c357 : Tryz.prog.cellsOf 357 = 1 := by kernel_rfl
theorem by357 : Tryz.prog.bytesOf 357 = 8 := by kernel_rfl
theorem c358 : Tryz.prog.cellsOf 358 = 1 := by kernel_rfl
theorem by358 : Tryz.prog.bytesOf 358 = 8 := by kernel_rfl
theorem c359 : Tryz.prog.cellsOf 359 = 1 := by kernel_rfl
theorem by359 : Tryz.prog.bytesOf 359 = 8 := by kernel_rfl
theorem c360 : Tryz.prog.cellsOf 360 = 1 := by kernel_rfl
theorem by360 : Tryz.prog.bytesOf 360 = 8 := by kernel_rfl
theorem c361 : Tryz.prog.cellsOf 361 = 1 := by kernel_rfl
theorem by361 : Tryz.prog.bytesOf 361 = 8 := by kernel_rfl
theorem c362 : Tryz.prog.cellsOf 362 = 1 := by kernel_rfl
theorem by362 : Tryz.prog.bytesOf 362 = 8 := by kernel_rfl
theorem c363 : Tryz.prog.cellsOf 363 = 1 := by kernel_rfl
theorem by363 : Tryz.prog.bytesOf 363 = 8 := by kernel_rfl
theorem c364 : Tryz.prog.cellsOf 364 = 1 := by kernel_rfl
theorem by364 : Tryz.prog.bytesOf 364 = 8 := by kernel_rfl
theorem c365 : Tryz.prog.cellsOf 365 = 1 := by kernel_rfl
theorem by365 : Tryz.prog.bytesOf 365 = 8 := by kernel_rfl
theorem c366 : Tryz.prog.cellsOf 366 = 3 := by kernel_rfl
theorem by366 : Tryz.prog.bytesOf 366 = 40 := by kernel_rfl
theorem c367 : Tryz.prog.cellsOf 367 = 3 := by kernel_rfl
theorem by367 : Tryz.prog.bytesOf 367 = 40 := by kernel_rfl
theorem c368 : Tryz.prog.cellsOf 368 = 1 := by kernel_rfl
theorem by368 : Tryz.prog.bytesOf 368 = 0 := by kernel_rfl
theorem c369 : Tryz.prog.cellsOf 369 = 1 := by kernel_rfl
theorem by369 : Tryz.prog.bytesOf 369 = 8 := by kernel_rfl
theorem c370 : Tryz.prog.cellsOf 370 = 1 := by kernel_rfl
theorem by370 : Tryz.prog.bytesOf 370 = 0 := by kernel_rfl
theorem c371 : Tryz.prog.cellsOf 371 = 1 := by kernel_rfl
theorem by371 : Tryz.prog.bytesOf 371 = 8 := by kernel_rfl
theorem c372 : Tryz.prog.cellsOf 372 = 1 := by kernel_rfl
theorem by372 : Tryz.prog.bytesOf 372 = 8 := by kernel_rfl
theorem c373 : Tryz.prog.cellsOf 373 = 1 := by kernel_rfl
theorem by373 : Tryz.prog.bytesOf 373 = 0 := by kernel_rfl
theorem c374 : Tryz.prog.cellsOf 374 = 1 := by kernel_rfl
theorem by374 : Tryz.prog.bytesOf 374 = 8 := by kernel_rfl
theorem c375 : Tryz.prog.cellsOf 375 = 1 := by kernel_rfl
theorem by375 : Tryz.prog.bytesOf 375 = 0 := by kernel_rfl
theorem c376 : Tryz.prog.cellsOf 376 = 1 := by kernel_rfl
theorem by376 : Tryz.prog.bytesOf 376 = 8 := by kernel_rfl
theorem c377 : Tryz.prog.cellsOf 377 = 1 := by kernel_rfl
theorem by377 : Tryz.prog.bytesOf 377 = 0 := by kernel_rfl
theorem c378 : Tryz.prog.cellsOf 378 = 1 := by kernel_rfl
theorem by378 : Tryz.prog.bytesOf 378 = 8 := by kernel_rfl
theorem c379 : Tryz.prog.cellsOf 379 = 1 := by kernel_rfl
theorem by379 : Tryz.prog.bytesOf 379 = 0 := by kernel_rfl
theorem c380 : Tryz.prog.cellsOf 380 = 1 := by kernel_rfl
theorem by380 : Tryz.prog.bytesOf 380 = 8 := by kernel_rfl
theorem c381 : Tryz.prog.cellsOf 381 = 1 := by kernel_rfl
theorem by381 : Tryz.prog.bytesOf 381 = 8 := by kernel_rfl
theorem c382 : Tryz.prog.cellsOf 382 = 1 := by kernel_rfl
theorem by382 : Tryz.prog.bytesOf 382 = 0 := by kernel_rfl
theorem c383 : Tryz.prog.cellsOf 383 = 1 := by kernel_rfl
theorem by383 : Tryz.prog.bytesOf 383 = 8 := by kernel_rfl
theorem c384 : Tryz.prog.cellsOf 384 = 1 := by kernel_rfl
theorem by384 : Tryz.prog.bytesOf 384 = 8 := by kernel_rfl
theorem c385 : Tryz.prog.cellsOf 385 = 3 := by kernel_rfl
theorem by385 : Tryz.prog.bytesOf 385 = 40 := by kernel_rfl
theorem c386 : Tryz.prog.cellsOf 386 = 3 := by kernel_rfl
theorem by386 : Tryz.prog.bytesOf 386 = 40 := by kernel_rfl
theorem c387 : Tryz.prog.cellsOf 387 = 1 := by kernel_rfl
theorem by387 : Tryz.prog.bytesOf 387 = 8 := by kernel_rfl
theorem c388 : Tryz.prog.cellsOf 388 = 1 := by kernel_rfl
theorem by388 : Tryz.prog.bytesOf 388 = 8 := by kernel_rfl
theorem c389 : Tryz.prog.cellsOf 389 = 1 := by kernel_rfl
theorem by389 : Tryz.prog.bytesOf 389 = 8 := by kernel_rfl
theorem c390 : Tryz.prog.cellsOf 390 = 1 := by kernel_rfl
theorem by390 : Tryz.prog.bytesOf 390 = 8 := by kernel_rfl
theorem c391 : Tryz.prog.cellsOf 391 = 1 := by kernel_rfl
theorem by391 : Tryz.prog.bytesOf 391 = 8 := by kernel_rfl
theorem c392 : Tryz.prog.cellsOf 392 = 1 := by kernel_rfl
theorem by392 : Tryz.prog.bytesOf 392 = 8 := by kernel_rfl
theorem c393 : Tryz.prog.cellsOf 393 = 1 := by kernel_rfl
theorem by393 : Tryz.prog.bytesOf 393 = 8 := by kernel_rfl
theorem c394 : Tryz.prog.cellsOf 394 = 1 := by kernel_rfl
theorem by394 : Tryz.prog.bytesOf 394 = 8 := by kernel_rfl
theorem c395 : Tryz.prog.cellsOf 395 = 1 := by kernel_rfl
theorem by395 : Tryz.prog.bytesOf 395 = 8 := by kernel_rfl
theorem c396 : Tryz.prog.cellsOf 396 = 1 := by kernel_rfl
theorem by396 : Tryz.prog.bytesOf 396 = 8 := by kernel_rfl
theorem c397 : Tryz.prog.cellsOf 397 = 1 := by kernel_rfl
theorem by397 : Tryz.prog.bytesOf 397 = 8 := by kernel_rfl
theorem c398 : Tryz.prog.cellsOf 398 = 1 := by kernel_rfl
theorem by398 : Tryz.prog.bytesOf 398 = 8 := by kernel_rfl
theorem c399 : Tryz.prog.cellsOf 399 = 1 := by kernel_rfl
theorem by399 : Tryz.prog.bytesOf 399 = 8 := by kernel_rfl
theorem c400 : Tryz.prog.cellsOf 400 = 1 := by kernel_rfl
theorem by400 : Tryz.prog.bytesOf 400 = 8 := by kernel_rfl
theorem c401 : Tryz.prog.cellsOf 401 = 1 := by kernel_rfl
theorem by401 : Tryz.prog.bytesOf 401 = 8 := by kernel_rfl
theorem c402 : Tryz.prog.cellsOf 402 = 1 := by kernel_rfl
theorem by402 : Tryz.prog.bytesOf 402 = 8 := by kernel_rfl
theorem c403 : Tryz.prog.cellsOf 403 = 1 := by kernel_rfl
theorem by403 : Tryz.prog.bytesOf 403 = 8 := by kernel_rfl
theorem c404 : Tryz.prog.cellsOf 404 = 1 := by kernel_rfl
theorem by404 : Tryz.prog.bytesOf 404 = 8 := by kernel_rfl
theorem c405 : Tryz.prog.cellsOf 405 = 1 := by kernel_rfl
theorem by405 : Tryz.prog.bytesOf 405 = 8 := by kernel_rfl
theorem c406 : Tryz.prog.cellsOf 406 = 1 := by kernel_rfl
theorem by406 : Tryz.prog.bytesOf 406 = 4 := by kernel_rfl
theorem c407 : Tryz.prog.cellsOf 407 = 8 := by kernel_rfl
theorem by407 : Tryz.prog.bytesOf 407 = 32 := by kernel_rfl
theorem c408 : Tryz.prog.cellsOf 408 = 64 := by kernel_rfl
theorem by408 : Tryz.prog.bytesOf 408 = 64 := by kernel_rfl
theorem c409 : Tryz.prog.cellsOf 409 = 74 := by kernel_rfl
theorem by409 : Tryz.prog.bytesOf 409 = 112 := by kernel_rfl
theorem c410 : Tryz.prog.cellsOf 410 = 74 := by kernel_rfl
theorem by410 : Tryz.prog.bytesOf 410 = 112 := by kernel_rfl
theorem c411 : Tryz.prog.cellsOf 411 = 1 := by kernel_rfl
theorem by411 : Tryz.prog.bytesOf 411 = 8 := by kernel_rfl
theorem c412 : Tryz.prog.cellsOf 412 = 1 := by kernel_rfl
theorem by412 : Tryz.prog.bytesOf 412 = 8 := by kernel_rfl
theorem c413 : Tryz.prog.cellsOf 413 = 1 := by kernel_rfl
theorem by413 : Tryz.prog.bytesOf 413 = 8 := by kernel_rfl
theorem c414 : Tryz.prog.cellsOf 414 = 1 := by kernel_rfl
theorem by414 : Tryz.prog.bytesOf 414 = 8 := by kernel_rfl
theorem c415 : Tryz.prog.cellsOf 415 = 1 := by kernel_rfl
theorem by415 : Tryz.prog.bytesOf 415 = 8 := by kernel_rfl
theorem c416 : Tryz.prog.cellsOf 416 = 1 := by kernel_rfl
theorem by416 : Tryz.prog.bytesOf 416 = 8 := by kernel_rfl
theorem c417 : Tryz.prog.cellsOf 417 = 1 := by kernel_rfl
theorem by417 : Tryz.prog.bytesOf 417 = 8 := by kernel_rfl
theorem c418 : Tryz.prog.cellsOf 418 = 1 := by kernel_rfl
theorem by418 : Tryz.prog.bytesOf 418 = 8 := by kernel_rfl
theorem c419 : Tryz.prog.cellsOf 419 = 1 := by kernel_rfl
theorem by419 : Tryz.prog.bytesOf 419 = 0 := by kernel_rfl
theorem c420 : Tryz.prog.cellsOf 420 = 1 := by kernel_rfl
theorem by420 : Tryz.prog.bytesOf 420 = 8 := by kernel_rfl
theorem c421 : Tryz.prog.cellsOf 421 = 1 := by kernel_rfl
theorem by421 : Tryz.prog.bytesOf 421 = 8 := by kernel_rfl
theorem c422 : Tryz.prog.cellsOf 422 = 1 := by kernel_rfl
theorem by422 : Tryz.prog.bytesOf 422 = 0 := by kernel_rfl
theorem c423 : Tryz.prog.cellsOf 423 = 1 := by kernel_rfl
theorem by423 : Tryz.prog.bytesOf 423 = 8 := by kernel_rfl
theorem c424 : Tryz.prog.cellsOf 424 = 1 := by kernel_rfl
theorem by424 : Tryz.prog.bytesOf 424 = 0 := by kernel_rfl
theorem c425 : Tryz.prog.cellsOf 425 = 1 := by kernel_rfl
theorem by425 : Tryz.prog.bytesOf 425 = 8 := by kernel_rfl
theorem c426 : Tryz.prog.cellsOf 426 = 1 := by kernel_rfl
theorem by426 : Tryz.prog.bytesOf 426 = 8 := by kernel_rfl
theorem c427 : Tryz.prog.cellsOf 427 = 1 := by kernel_rfl
theorem by427 : Tryz.prog.bytesOf 427 = 0 := by kernel_rfl
theorem c428 : Tryz.prog.cellsOf 428 = 1 := by kernel_rfl
theorem by428 : Tryz.prog.bytesOf 428 = 8 := by kernel_rfl
theorem c429 : Tryz.prog.cellsOf 429 = 1 := by kernel_rfl
theorem by429 : Tryz.prog.bytesOf 429 = 8 := by kernel_rfl
theorem c430 : Tryz.prog.cellsOf 430 = 1 := by kernel_rfl
theorem by430 : Tryz.prog.bytesOf 430 = 8 := by kernel_rfl
theorem c431 : Tryz.prog.cellsOf 431 = 1 := by kernel_rfl
theorem by431 : Tryz.prog.bytesOf 431 = 8 := by kernel_rfl
theorem c432 : Tryz.prog.cellsOf 432 = 1 := by kernel_rfl
theorem by432 : Tryz.prog.bytesOf 432 = 8 := by kernel_rfl
theorem c433 : Tryz.prog.cellsOf 433 = 1 := by kernel_rfl
theorem by433 : Tryz.prog.bytesOf 433 = 8 := by kernel_rfl
theorem c434 : Tryz.prog.cellsOf 434 = 1 := by kernel_rfl
theorem by434 : Tryz.prog.bytesOf 434 = 8 := by kernel_rfl
theorem c435 : Tryz.prog.cellsOf 435 = 1 := by kernel_rfl
theorem by435 : Tryz.prog.bytesOf 435 = 8 := by kernel_rfl
theorem c436 : Tryz.prog.cellsOf 436 = 1 := by kernel_rfl
theorem by436 : Tryz.prog.bytesOf 436 = 0 := by kernel_rfl
theorem c437 : Tryz.prog.cellsOf 437 = 1 := by kernel_rfl
theorem by437 : Tryz.prog.bytesOf 437 = 8 := by kernel_rfl
theorem c438 : Tryz.prog.cellsOf 438 = 1 := by kernel_rfl
theorem by438 : Tryz.prog.bytesOf 438 = 8 := by kernel_rfl
theorem c439 : Tryz.prog.cellsOf 439 = 1 := by kernel_rfl
theorem by439 : Tryz.prog.bytesOf 439 = 8 := by kernel_rfl
theorem c440 : Tryz.prog.cellsOf 440 = 1 := by kernel_rfl
theorem by440 : Tryz.prog.bytesOf 440 = 8 := by kernel_rfl
theorem c441 : Tryz.prog.cellsOf 441 = 64 := by kernel_rfl
theorem by441 : Tryz.prog.bytesOf 441 = 256 := by kernel_rfl
theorem c442 : Tryz.prog.cellsOf 442 = 1 := by kernel_rfl
theorem by442 : Tryz.prog.bytesOf 442 = 8 := by kernel_rfl
theorem c443 : Tryz.prog.cellsOf 443 = 1 := by kernel_rfl
theorem by443 : Tryz.prog.bytesOf 443 = 8 := by kernel_rfl
theorem c444 : Tryz.prog.cellsOf 444 = 1 := by kernel_rfl
theorem by444 : Tryz.prog.bytesOf 444 = 8 := by kernel_rfl
theorem c445 : Tryz.prog.cellsOf 445 = 1 := by kernel_rfl
theorem by445 : Tryz.prog.bytesOf 445 = 0 := by kernel_rfl
theorem c446 : Tryz.prog.cellsOf 446 = 1 := by kernel_rfl
theorem by446 : Tryz.prog.bytesOf 446 = 8 := by kernel_rfl
theorem c447 : Tryz.prog.cellsOf 447 = 1 := by kernel_rfl
theorem by447 : Tryz.prog.bytesOf 447 = 0 := by kernel_rfl
theorem c448 : Tryz.prog.cellsOf 448 = 1 := by kernel_rfl
theorem by448 : Tryz.prog.bytesOf 448 = 8 := by kernel_rfl
theorem c449 : Tryz.prog.cellsOf 449 = 1 := by kernel_rfl
theorem by449 : Tryz.prog.bytesOf 449 = 8 := by kernel_rfl
theorem c450 : Tryz.prog.cellsOf 450 = 1 := by kernel_rfl
theorem by450 : Tryz.prog.bytesOf 450 = 8 := by kernel_rfl
theorem c451 : Tryz.prog.cellsOf 451 = 1 := by kernel_rfl
theorem by451 : Tryz.prog.bytesOf 451 = 0 := by kernel_rfl
theorem c452 : Tryz.prog.cellsOf 452 = 64 := by kernel_rfl
theorem by452 : Tryz.prog.bytesOf 452 = 64 := by kernel_rfl
theorem c453 : Tryz.prog.cellsOf 453 = 64 := by kernel_rfl
theorem by453 : Tryz.prog.bytesOf 453 = 64 := by kernel_rfl
theorem c454 : Tryz.prog.cellsOf 454 = 1 := by kernel_rfl
theorem by454 : Tryz.prog.bytesOf 454 = 0 := by kernel_rfl
theorem c455 : Tryz.prog.cellsOf 455 = 1 := by kernel_rfl
theorem by455 : Tryz.prog.bytesOf 455 = 8 := by kernel_rfl
theorem c456 : Tryz.prog.cellsOf 456 = 1 := by kernel_rfl
theorem by456 : Tryz.prog.bytesOf 456 = 8 := by kernel_rfl
theorem c457 : Tryz.prog.cellsOf 457 = 1 := by kernel_rfl
theorem by457 : Tryz.prog.bytesOf 457 = 8 := by kernel_rfl
theorem c458 : Tryz.prog.cellsOf 458 = 1 := by kernel_rfl
theorem by458 : Tryz.prog.bytesOf 458 = 8 := by kernel_rfl
theorem c459 : Tryz.prog.cellsOf 459 = 1 := by kernel_rfl
theorem by459 : Tryz.prog.bytesOf 459 = 8 := by kernel_rfl
theorem c460 : Tryz.prog.cellsOf 460 = 1 := by kernel_rfl
theorem by460 : Tryz.prog.bytesOf 460 = 8 := by kernel_rfl
theorem c461 : Tryz.prog.cellsOf 461 = 1 := by kernel_rfl
theorem by461 : Tryz.prog.bytesOf 461 = 0 := by kernel_rfl
theorem c462 : Tryz.prog.cellsOf 462 = 1 := by kernel_rfl
theorem by462 : Tryz.prog.bytesOf 462 = 8 := by kernel_rfl
theorem c463 : Tryz.prog.cellsOf 463 = 1 := by kernel_rfl
theorem by463 : Tryz.prog.bytesOf 463 = 8 := by kernel_rfl
theorem c464 : Tryz.prog.cellsOf 464 = 1 := by kernel_rfl
theorem by464 : Tryz.prog.bytesOf 464 = 8 := by kernel_rfl
theorem c465 : Tryz.prog.cellsOf 465 = 4 := by kernel_rfl
theorem by465 : Tryz.prog.bytesOf 465 = 40 := by kernel_rfl
theorem c466 : Tryz.prog.cellsOf 466 = 4 := by kernel_rfl
theorem by466 : Tryz.prog.bytesOf 466 = 40 := by kernel_rfl
theorem c467 : Tryz.prog.cellsOf 467 = 0 := by kernel_rfl
theorem by467 : Tryz.prog.bytesOf 467 = 0 := by kernel_rfl
theorem c468 : Tryz.prog.cellsOf 468 = 0 := by kernel_rfl
theorem by468 : Tryz.prog.bytesOf 468 = 0 := by kernel_rfl
theorem c469 : Tryz.prog.cellsOf 469 = 0 := by kernel_rfl
theorem by469 : Tryz.prog.bytesOf 469 = 0 := by kernel_rfl
theorem c470 : Tryz.prog.cellsOf 470 = 1 := by kernel_rfl
theorem by470 : Tryz.prog.bytesOf 470 = 1 := by kernel_rfl
theorem c471 : Tryz.prog.cellsOf 471 = 1 := by kernel_rfl
theorem by471 : Tryz.prog.bytesOf 471 = 1 := by kernel_rfl
theorem c472 : Tryz.prog.cellsOf 472 = 1 := by kernel_rfl
theorem by472 : Tryz.prog.bytesOf 472 = 8 := by kernel_rfl
theorem c473 : Tryz.prog.cellsOf 473 = 1 := by kernel_rfl
theorem by473 : Tryz.prog.bytesOf 473 = 8 := by kernel_rfl
theorem c474 : Tryz.prog.cellsOf 474 = 1 := by kernel_rfl
theorem by474 : Tryz.prog.bytesOf 474 = 4 := by kernel_rfl
theorem c475 : Tryz.prog.cellsOf 475 = 1 := by kernel_rfl
theorem by475 : Tryz.prog.bytesOf 475 = 4 := by kernel_rfl
theorem c476 : Tryz.prog.cellsOf 476 = 11 := by kernel_rfl
theorem by476 : Tryz.prog.bytesOf 476 = 48 := by kernel_rfl
theorem c477 : Tryz.prog.cellsOf 477 = 11 := by kernel_rfl
theorem by477 : Tryz.prog.bytesOf 477 = 48 := by kernel_rfl
theorem c478 : Tryz.prog.cellsOf 478 = 1 := by kernel_rfl
theorem by478 : Tryz.prog.bytesOf 478 = 8 := by kernel_rfl
theorem z1 : zeroOf Tryz.prog 1 = some (.nilFunc) := by kernel_rfl
theorem z2 : zeroOf Tryz.prog 2 = some (.int .i64 0) := by kernel_rfl
theorem z3 : zeroOf Tryz.prog 3 = some (.int .i64 0) := by kernel_rfl
theorem z4 : zeroOf Tryz.prog 4 = some (.bool false) := by kernel_rfl
theorem z5 : zeroOf Tryz.prog 5 = some (.int .u8 0) := by kernel_rfl
theorem z6 : zeroOf Tryz.prog 6 = some (.int .u8 0) := by kernel_rfl
theorem z7 : zeroOf Tryz.prog 7 = some (.agg ([.int .i64 0, .int .i64 0] ++ [.bool false] ++ [.int .u8 0] : List Value).toArray) := by kernel_rfl
theorem z8 : zeroOf Tryz.prog 8 = some (.agg ([.int .i64 0, .int .i64 0] ++ [.bool false] ++ [.int .u8 0] : List Value).toArray) := by kernel_rfl
theorem z9 : zeroOf Tryz.prog 9 = some (.string ByteArray.empty) := by kernel_rfl
theorem z10 : zeroOf Tryz.prog 10 = some (.string ByteArray.empty) := by kernel_rfl
theorem z11 : zeroOf Tryz.prog 11 = some (.string ByteArray.empty) := by kernel_rfl
theorem z12 : zeroOf Tryz.prog 12 = some (.int .u64 0) := by kernel_rfl
theorem z13 : zeroOf Tryz.prog 13 = some (.agg ([.string ByteArray.empty] ++ [.int .u64 0] : List Value).toArray) := by kernel_rfl
theorem z14 : zeroOf Tryz.prog 14 = some (.agg ([.string ByteArray.empty] ++ [.int .u64 0] : List Value).toArray) := by kernel_rfl
theorem z15 : zeroOf Tryz.prog 15 = some (.pointer none) := by kernel_rfl
theorem z16 : zeroOf Tryz.prog 16 = some (.pointer none) := by kernel_rfl
theorem z17 : zeroOf Tryz.prog 17 = some (.pointer none) := by kernel_rfl
theorem z18 : zeroOf Tryz.prog 18 = some (.agg ([.pointer none] : List Value).toArray) := by kernel_rfl
theorem z19 : zeroOf Tryz.prog 19 = some (.agg ([.pointer none] : List Value).toArray) := by kernel_rfl
theorem z20 : zeroOf Tryz.prog 20 = some (.nilIface) := by kernel_rfl
theorem z21 : zeroOf Tryz.prog 21 = some (.int .i32 0) := by kernel_rfl
theorem z22 : zeroOf Tryz.prog 22 = some (.slice none 0 0) := by kernel_rfl
theorem z23 : zeroOf Tryz.prog 23 = some (.slice none 0 0) := by kernel_rfl
theorem z24 : zeroOf Tryz.prog 24 = some (.slice none 0 0) := by kernel_rfl
theorem z25 : zeroOf Tryz.prog 25 = some (.agg ([.slice none 0 0, .slice none 0 0] : List Value).toArray) := by kernel_rfl
theorem z26 : zeroOf Tryz.prog 26 = some (.agg ([.slice none 0 0, .slice none 0 0] : List Value).toArray) := by kernel_rfl
theorem z27 : zeroOf Tryz.prog 27 = some (.agg (List.replicate 32 (.int .u8 0) : List Value).toArray) := by kernel_rfl
theorem z28 : zeroOf Tryz.prog 28 = some (.agg (List.replicate 32 (.int .u8 0) : List Value).toArray) := by kernel_rfl
theorem z29 : zeroOf Tryz.prog 29 = some (.agg ([.int .i64 0] ++ [.slice none 0 0, .slice none 0 0, .slice none 0 0] ++ List.replicate 32 (.int .u8 0) : List Value).toArray) := by kernel_rfl
theorem z30 : zeroOf Tryz.prog 30 = some (.agg ([.int .i64 0] ++ [.slice none 0 0, .slice none 0 0, .slice none 0 0] ++ List.replicate 32 (.int .u8 0) : List Value).toArray) := by kernel_rfl
theorem z31 : zeroOf Tryz.prog 31 = some (.nilFunc) := by kernel_rfl
theorem z33 : zeroOf Tryz.prog 33 = some (.nilFunc) := by kernel_rfl
theorem z35 : zeroOf Tryz.prog 35 = some (.nilFunc) := by kernel_rfl
theorem z36 : zeroOf Tryz.prog 36 = some (.slice none 0 0) := by kernel_rfl
theorem z38 : zeroOf Tryz.prog 38 = some (.nilFunc) := by kernel_rfl
theorem z39 : zeroOf Tryz.prog 39 = some (.int .i64 0) := by kernel_rfl
theorem z41 : zeroOf Tryz.prog 41 = some (.nilFunc) := by kernel_rfl
theorem z43 : zeroOf Tryz.prog 43 = some (.nilFunc) := by kernel_rfl
theorem z44 : zeroOf Tryz.prog 44 = some (.nilFunc) := by kernel_rfl
theorem z45 : zeroOf Tryz.prog 45 = some (.nilFunc) := by kernel_rfl
theorem z46 : zeroOf Tryz.prog 46 = some (.agg ([.slice none 0 0, .slice none 0 0] : List Value).toArray) := by kernel_rfl
theorem z47 : zeroOf Tryz.prog 47 = some (.agg ([.slice none 0 0, .slice none 0 0] : List Value).toArray) := by kernel_rfl
theorem z48 : zeroOf Tryz.prog 48 = some (.int .u16 0) := by kernel_rfl
theorem z49 : zeroOf Tryz.prog 49 = some (.slice none 0 0) := by kernel_rfl
theorem z50 : zeroOf Tryz.prog 50 = some (.agg ([.int .u16 0] ++ [.slice none 0 0] : List Value).toArray) := by kernel_rfl
theorem z51 : zeroOf Tryz.prog 51 = some (.agg ([.int .u16 0] ++ [.slice none 0 0] : List Value).toArray) := by kernel_rfl
theorem z52 : zeroOf Tryz.prog 52 = some (.nilFunc) := by kernel_rfl
theorem z53 : zeroOf Tryz.prog 53 = some (.nilFunc) := by kernel_rfl
theorem z54 : zeroOf Tryz.prog 54 = some (.nilFunc) := by kernel_rfl
theorem z55 : zeroOf Tryz.prog 55 = some (.pointer none) := by kernel_rfl
theorem z56 : zeroOf Tryz.prog 56 = some (.slice none 0 0) := by kernel_rfl
theorem z58 : zeroOf Tryz.prog 58 = some (.nilFunc) := by kernel_rfl
theorem z59 : zeroOf Tryz.prog 59 = some (.nilFunc) := by kernel_rfl
theorem z61 : zeroOf Tryz.prog 61 = some (.nilFunc) := by kernel_rfl
theorem z63 : zeroOf Tryz.prog 63 = some (.nilFunc) := by kernel_rfl
theorem z64 : zeroOf Tryz.prog 64 = some (.nilFunc) := by kernel_rfl
theorem z65 : zeroOf Tryz.prog 65 = some (.nilFunc) := by kernel_rfl
theorem z66 : zeroOf Tryz.prog 66 = some (.nilFunc) := by kernel_rfl
theorem z67 : zeroOf Tryz.prog 67 = some (.nilFunc) := by kernel_rfl
theorem z68 : zeroOf Tryz.prog 68 = some (.nilFunc) := by kernel_rfl
theorem z69 : zeroOf Tryz.prog 69 = some (.nilFunc) := by kernel_rfl
theorem z71 : zeroOf Tryz.prog 71 = some (.nilFunc) := by kernel_rfl
theorem z72 : zeroOf Tryz.prog 72 = some (.nilFunc) := by kernel_rfl
theorem z73 : zeroOf Tryz.prog 73 = some (.nilFunc) := by kernel_rfl
theorem z74 : zeroOf Tryz.prog 74 = some (.nilFunc) := by kernel_rfl
theorem z75 : zeroOf Tryz.prog 75 = some (.slice none 0 0) := by kernel_rfl
theorem z76 : zeroOf Tryz.prog 76 = some (.nilFunc) := by kernel_rfl
theorem z78 : zeroOf Tryz.prog 78 = some (.nilFunc) := by kernel_rfl
theorem z79 : zeroOf Tryz.prog 79 = some (.nilFunc) := by kernel_rfl
theorem z80 : zeroOf Tryz.prog 80 = some (.nilFunc) := by kernel_rfl
theorem z81 : zeroOf Tryz.prog 81 = some (.nilFunc) := by kernel_rfl
theorem z83 : zeroOf Tryz.prog 83 = some (.nilFunc) := by kernel_rfl
theorem z84 : zeroOf Tryz.prog 84 = some (.slice none 0 0) := by kernel_rfl
theorem z85 : zeroOf Tryz.prog 85 = some (.nilFunc) := by kernel_rfl
theorem z86 : zeroOf Tryz.prog 86 = some (.pointer none) := by kernel_rfl
theorem z88 : zeroOf Tryz.prog 88 = some (.nilFunc) := by kernel_rfl
theorem z89 : zeroOf Tryz.prog 89 = some (.agg ([.int .u8 0] ++ [.slice none 0 0, .slice none 0 0] : List Value).toArray) := by kernel_rfl
theorem z90 : zeroOf Tryz.prog 90 = some (.agg ([.int .u8 0] ++ [.slice none 0 0, .slice none 0 0] : List Value).toArray) := by kernel_rfl
theorem z91 : zeroOf Tryz.prog 91 = some (.nilFunc) := by kernel_rfl
theorem z92 : zeroOf Tryz.prog 92 = some (.agg ([.slice none 0 0] : List Value).toArray) := by kernel_rfl
theorem z93 : zeroOf Tryz.prog 93 = some (.agg ([.slice none 0 0] : List Value).toArray) := by kernel_rfl
theorem z94 : zeroOf Tryz.prog 94 = some (.nilFunc) := by kernel_rfl
theorem z95 : zeroOf Tryz.prog 95 = some (.nilFunc) := by kernel_rfl
theorem z96 : zeroOf Tryz.prog 96 = some (.nilFunc) := by kernel_rfl
theorem z97 : zeroOf Tryz.prog 97 = some (.slice none 0 0) := by kernel_rfl
theorem z98 : zeroOf Tryz.prog 98 = some (.pointer none) := by kernel_rfl
theorem z99 : zeroOf Tryz.prog 99 = some (.slice none 0 0) := by kernel_rfl
theorem z100 : zeroOf Tryz.prog 100 = some (.agg ([.int .i64 0] ++ [.slice none 0 0, .slice none 0 0] : List Value).toArray) := by kernel_rfl
theorem z101 : zeroOf Tryz.prog 101 = some (.agg ([.int .i64 0] ++ [.slice none 0 0, .slice none 0 0] : List Value).toArray) := by kernel_rfl
theorem z103 : zeroOf Tryz.prog 103 = some (.nilFunc) := by kernel_rfl
theorem z104 : zeroOf Tryz.prog 104 = some (.int .u64 0) := by kernel_rfl
theorem z105 : zeroOf Tryz.prog 105 = some (.nilFunc) := by kernel_rfl
theorem z106 : zeroOf Tryz.prog 106 = some (.nilFunc) := by kernel_rfl
theorem z108 : zeroOf Tryz.prog 108 = some (.nilFunc) := by kernel_rfl
theorem z109 : zeroOf Tryz.prog 109 = some (.nilFunc) := by kernel_rfl
theorem z110 : zeroOf Tryz.prog 110 = some (.pointer none) := by kernel_rfl
theorem z112 : zeroOf Tryz.prog 112 = some (.nilFunc) := by kernel_rfl
theorem z114 : zeroOf Tryz.prog 114 = some (.nilFunc) := by kernel_rfl
theorem z116 : zeroOf Tryz.prog 116 = some (.nilFunc) := by kernel_rfl
theorem z117 : zeroOf Tryz.prog 117 = some (.nilFunc) := by kernel_rfl
theorem z119 : zeroOf Tryz.prog 119 = some (.nilFunc) := by kernel_rfl
theorem z120 : zeroOf Tryz.prog 120 = some (.nilFunc) := by kernel_rfl
theorem z121 : zeroOf Tryz.prog 121 = some (.agg ([.int .u64 0] ++ List.replicate 64 (.int .u8 0) : List Value).toArray) := by kernel_rfl
theorem z122 : zeroOf Tryz.prog 122 = some (.agg ([.int .u64 0] ++ List.replicate 64 (.int .u8 0) : List Value).toArray) := by kernel_rfl
theorem z123 : zeroOf Tryz.prog 123 = some (.nilFunc) := by kernel_rfl
theorem z124 : zeroOf Tryz.prog 124 = some (.nilFunc) := by kernel_rfl
theorem z125 : zeroOf Tryz.prog 125 = some (.slice none 0 0) := by kernel_rfl
theorem z127 : zeroOf Tryz.prog 127 = some (.nilFunc) := by kernel_rfl
theorem z129 : zeroOf Tryz.prog 129 = some (.nilFunc) := by kernel_rfl
theorem z130 : zeroOf Tryz.prog 130 = some (.slice none 0 0) := by kernel_rfl
theorem z131 : zeroOf Tryz.prog 131 = some (.slice none 0 0) := by kernel_rfl
theorem z132 : zeroOf Tryz.prog 132 = some (.agg ([.int .u64 0] ++ [.slice none 0 0] : List Value).toArray) := by kernel_rfl
theorem z133 : zeroOf Tryz.prog 133 = some (.agg ([.int .u64 0] ++ [.slice none 0 0] : List Value).toArray) := by kernel_rfl
theorem z134 : zeroOf Tryz.prog 134 = some (.agg ([.int .i64 0] ++ [.int .u64 0] ++ [.slice none 0 0] : List Value).toArray) := by kernel_rfl
theorem z135 : zeroOf Tryz.prog 135 = some (.agg ([.int .i64 0] ++ [.int .u64 0] ++ [.slice none 0 0] : List Value).toArray) := by kernel_rfl
theorem z136 : zeroOf Tryz.prog 136 = some (.nilFunc) := by kernel_rfl
theorem z137 : zeroOf Tryz.prog 137 = some (.nilFunc) := by kernel_rfl
theorem z138 : zeroOf Tryz.prog 138 = some (.nilFunc) := by kernel_rfl
theorem z139 : zeroOf Tryz.prog 139 = some (.nilFunc) := by kernel_rfl
theorem z140 : zeroOf Tryz.prog 140 = some (.nilFunc) := by kernel_rfl
theorem z141 : zeroOf Tryz.prog 141 = some (.agg ([.int .u64 0] ++ [.slice none 0 0] : List Value).toArray) := by kernel_rfl
theorem z142 : zeroOf Tryz.prog 142 = some (.agg ([.int .u64 0] ++ [.slice none 0 0] : List Value).toArray) := by kernel_rfl
theorem z144 : zeroOf Tryz.prog 144 = some (.nilFunc) := by kernel_rfl
theorem z145 : zeroOf Tryz.prog 145 = some (.nilFunc) := by kernel_rfl
theorem z147 : zeroOf Tryz.prog 147 = some (.nilFunc) := by kernel_rfl
theorem z149 : zeroOf Tryz.prog 149 = some (.nilFunc) := by kernel_rfl
theorem z151 : zeroOf Tryz.prog 151 = some (.nilFunc) := by kernel_rfl
theorem z152 : zeroOf Tryz.prog 152 = some (.nilFunc) := by kernel_rfl
theorem z153 : zeroOf Tryz.prog 153 = some (.agg ([.int .u8 0] ++ [.int .u64 0] ++ List.replicate 64 (.int .u8 0) ++ [.int .u64 0] ++ List.replicate 64 (.int .u8 0) ++ [.int .u64 0] ++ [.int .u8 0] ++ List.replicate 6 (.slice none 0 0) : List Value).toArray) := by kernel_rfl
theorem z154 : zeroOf Tryz.prog 154 = some (.agg ([.int .u8 0] ++ [.int .u64 0] ++ List.replicate 64 (.int .u8 0) ++ [.int .u64 0] ++ List.replicate 64 (.int .u8 0) ++ [.int .u64 0] ++ [.int .u8 0] ++ List.replicate 6 (.slice none 0 0) : List Value).toArray) := by kernel_rfl
theorem z155 : zeroOf Tryz.prog 155 = some (.nilFunc) := by kernel_rfl
theorem z156 : zeroOf Tryz.prog 156 = some (.nilFunc) := by kernel_rfl
theorem z158 : zeroOf Tryz.prog 158 = some (.nilFunc) := by kernel_rfl
theorem z159 : zeroOf Tryz.prog 159 = some (.nilFunc) := by kernel_rfl
theorem z160 : zeroOf Tryz.prog 160 = some (.agg (List.replicate 65 (.int .u8 0) ++ [.int .u64 0] ++ [.int .u8 0] ++ List.replicate 4 (.slice none 0 0) ++ [.bool false] : List Value).toArray) := by kernel_rfl
theorem z161 : zeroOf Tryz.prog 161 = some (.agg (List.replicate 65 (.int .u8 0) ++ [.int .u64 0] ++ [.int .u8 0] ++ List.replicate 4 (.slice none 0 0) ++ [.bool false] : List Value).toArray) := by kernel_rfl
theorem z163 : zeroOf Tryz.prog 163 = some (.nilFunc) := by kernel_rfl
theorem z164 : zeroOf Tryz.prog 164 = some (.nilFunc) := by kernel_rfl
theorem z165 : zeroOf Tryz.prog 165 = some (.nilFunc) := by kernel_rfl
theorem z166 : zeroOf Tryz.prog 166 = some (.slice none 0 0) := by kernel_rfl
theorem z167 : zeroOf Tryz.prog 167 = some (.nilFunc) := by kernel_rfl
theorem z169 : zeroOf Tryz.prog 169 = some (.nilFunc) := by kernel_rfl
theorem z170 : zeroOf Tryz.prog 170 = some (.nilFunc) := by kernel_rfl
theorem z171 : zeroOf Tryz.prog 171 = some (.nilFunc) := by kernel_rfl
theorem z173 : zeroOf Tryz.prog 173 = some (.nilFunc) := by kernel_rfl
theorem z175 : zeroOf Tryz.prog 175 = some (.nilFunc) := by kernel_rfl
theorem z176 : zeroOf Tryz.prog 176 = some (.nilFunc) := by kernel_rfl
theorem z177 : zeroOf Tryz.prog 177 = some (.nilFunc) := by kernel_rfl
theorem z178 : zeroOf Tryz.prog 178 = some (.nilFunc) := by kernel_rfl
theorem z179 : zeroOf Tryz.prog 179 = some (.nilFunc) := by kernel_rfl
theorem z180 : zeroOf Tryz.prog 180 = some (.nilFunc) := by kernel_rfl
theorem z181 : zeroOf Tryz.prog 181 = some (.slice none 0 0) := by kernel_rfl
theorem z182 : zeroOf Tryz.prog 182 = some (.nilFunc) := by kernel_rfl
theorem z183 : zeroOf Tryz.prog 183 = some (.nilFunc) := by kernel_rfl
theorem z184 : zeroOf Tryz.prog 184 = some (.nilFunc) := by kernel_rfl
theorem z185 : zeroOf Tryz.prog 185 = some (.nilFunc) := by kernel_rfl
theorem z186 : zeroOf Tryz.prog 186 = some (.nilFunc) := by kernel_rfl
theorem z187 : zeroOf Tryz.prog 187 = some (.nilFunc) := by kernel_rfl
theorem z188 : zeroOf Tryz.prog 188 = some (.nilFunc) := by kernel_rfl
theorem z189 : zeroOf Tryz.prog 189 = some (.nilFunc) := by kernel_rfl
theorem z190 : zeroOf Tryz.prog 190 = some (.nilFunc) := by kernel_rfl
theorem z191 : zeroOf Tryz.prog 191 = some (.nilFunc) := by kernel_rfl
theorem z192 : zeroOf Tryz.prog 192 = some (.nilFunc) := by kernel_rfl
theorem z193 : zeroOf Tryz.prog 193 = some (.nilFunc) := by kernel_rfl
theorem z195 : zeroOf Tryz.prog 195 = some (.nilFunc) := by kernel_rfl
theorem z196 : zeroOf Tryz.prog 196 = some (.nilFunc) := by kernel_rfl
theorem z197 : zeroOf Tryz.prog 197 = some (.nilFunc) := by kernel_rfl
theorem z198 : zeroOf Tryz.prog 198 = some (.nilFunc) := by kernel_rfl
theorem z199 : zeroOf Tryz.prog 199 = some (.nilFunc) := by kernel_rfl
theorem z201 : zeroOf Tryz.prog 201 = some (.nilFunc) := by kernel_rfl
theorem z202 : zeroOf Tryz.prog 202 = some (.pointer none) := by kernel_rfl
theorem z203 : zeroOf Tryz.prog 203 = some (.nilFunc) := by kernel_rfl
theorem z204 : zeroOf Tryz.prog 204 = some (.nilFunc) := by kernel_rfl
theorem z205 : zeroOf Tryz.prog 205 = some (.nilFunc) := by kernel_rfl
theorem z206 : zeroOf Tryz.prog 206 = some (.nilFunc) := by kernel_rfl
theorem z207 : zeroOf Tryz.prog 207 = some (.nilFunc) := by kernel_rfl
theorem z208 : zeroOf Tryz.prog 208 = some (.nilIface) := by kernel_rfl
theorem z209 : zeroOf Tryz.prog 209 = some (.nilIface) := by kernel_rfl
theorem z210 : zeroOf Tryz.prog 210 = some (.agg ([.int .i64 0] ++ [.nilIface] : List Value).toArray) := by kernel_rfl
theorem z211 : zeroOf Tryz.prog 211 = some (.agg ([.int .i64 0] ++ [.nilIface] : List Value).toArray) := by kernel_rfl
theorem z212 : zeroOf Tryz.prog 212 = some (.nilFunc) := by kernel_rfl
theorem z213 : zeroOf Tryz.prog 213 = some (.nilFunc) := by kernel_rfl
theorem z214 : zeroOf Tryz.prog 214 = some (.nilFunc) := by kernel_rfl
theorem z215 : zeroOf Tryz.prog 215 = some (.nilFunc) := by kernel_rfl
theorem z216 : zeroOf Tryz.prog 216 = some (.pointer none) := by kernel_rfl
theorem z218 : zeroOf Tryz.prog 218 = some (.nilFunc) := by kernel_rfl
theorem z219 : zeroOf Tryz.prog 219 = some (.agg (List.replicate 32 (.int .u8 0) ++ [.slice none 0 0] ++ List.replicate 32 (.int .u8 0) : List Value).toArray) := by kernel_rfl
theorem z220 : zeroOf Tryz.prog 220 = some (.agg (List.replicate 32 (.int .u8 0) ++ [.slice none 0 0] ++ List.replicate 32 (.int .u8 0) : List Value).toArray) := by kernel_rfl
theorem z221 : zeroOf Tryz.prog 221 = some (.pointer none) := by kernel_rfl
theorem z222 : zeroOf Tryz.prog 222 = some (.nilFunc) := by kernel_rfl
theorem z223 : zeroOf Tryz.prog 223 = some (.slice none 0 0) := by kernel_rfl
theorem z224 : zeroOf Tryz.prog 224 = some (.agg ([.int .u16 0] ++ [.slice none 0 0] ++ List.replicate 32 (.int .u8 0) ++ [.int .i64 0] : List Value).toArray) := by kernel_rfl
theorem z225 : zeroOf Tryz.prog 225 = some (.agg ([.int .u16 0] ++ [.slice none 0 0] ++ List.replicate 32 (.int .u8 0) ++ [.int .i64 0] : List Value).toArray) := by kernel_rfl
theorem z226 : zeroOf Tryz.prog 226 = some (.nilFunc) := by kernel_rfl
theorem z228 : zeroOf Tryz.prog 228 = some (.nilFunc) := by kernel_rfl
theorem z229 : zeroOf Tryz.prog 229 = some (.agg (List.replicate 32 (.int .u8 0) ++ [.slice none 0 0, .slice none 0 0] : List Value).toArray) := by kernel_rfl
theorem z230 : zeroOf Tryz.prog 230 = some (.agg (List.replicate 32 (.int .u8 0) ++ [.slice none 0 0, .slice none 0 0] : List Value).toArray) := by kernel_rfl
theorem z231 : zeroOf Tryz.prog 231 = some (.nilFunc) := by kernel_rfl
theorem z232 : zeroOf Tryz.prog 232 = some (.nilFunc) := by kernel_rfl
theorem z233 : zeroOf Tryz.prog 233 = some (.nilFunc) := by kernel_rfl
theorem z234 : zeroOf Tryz.prog 234 = some (.nilFunc) := by kernel_rfl
theorem z235 : zeroOf Tryz.prog 235 = some (.nilFunc) := by kernel_rfl
theorem z236 : zeroOf Tryz.prog 236 = some (.nilFunc) := by kernel_rfl
theorem z237 : zeroOf Tryz.prog 237 = some (.nilFunc) := by kernel_rfl
theorem z238 : zeroOf Tryz.prog 238 = some (.slice none 0 0) := by kernel_rfl
theorem z239 : zeroOf Tryz.prog 239 = some (.agg ([.pointer none, .pointer none] ++ [.slice none 0 0, .slice none 0 0] : List Value).toArray) := by kernel_rfl
theorem z240 : zeroOf Tryz.prog 240 = some (.agg ([.pointer none, .pointer none] ++ [.slice none 0 0, .slice none 0 0] : List Value).toArray) := by kernel_rfl
theorem z241 : zeroOf Tryz.prog 241 = some (.slice none 0 0) := by kernel_rfl
theorem z242 : zeroOf Tryz.prog 242 = some (.agg ([.int .i64 0] ++ [.int .u64 0] ++ [.slice none 0 0] : List Value).toArray) := by kernel_rfl
theorem z243 : zeroOf Tryz.prog 243 = some (.agg ([.int .i64 0] ++ [.int .u64 0] ++ [.slice none 0 0] : List Value).toArray) := by kernel_rfl
theorem z244 : zeroOf Tryz.prog 244 = some (.nilFunc) := by kernel_rfl
theorem z245 : zeroOf Tryz.prog 245 = some (.agg ([.slice none 0 0] : List Value).toArray) := by kernel_rfl
theorem z246 : zeroOf Tryz.prog 246 = some (.agg ([.slice none 0 0] : List Value).toArray) := by kernel_rfl
theorem z247 : zeroOf Tryz.prog 247 = some (.nilFunc) := by kernel_rfl
theorem z248 : zeroOf Tryz.prog 248 = some (.pointer none) := by kernel_rfl
theorem z249 : zeroOf Tryz.prog 249 = some (.nilFunc) := by kernel_rfl
theorem z250 : zeroOf Tryz.prog 250 = some (.nilFunc) := by kernel_rfl
theorem z251 : zeroOf Tryz.prog 251 = some (.nilFunc) := by kernel_rfl
theorem z252 : zeroOf Tryz.prog 252 = some (.pointer none) := by kernel_rfl
theorem z253 : zeroOf Tryz.prog 253 = some (.nilFunc) := by kernel_rfl
theorem z255 : zeroOf Tryz.prog 255 = some (.nilFunc) := by kernel_rfl
theorem z256 : zeroOf Tryz.prog 256 = some (.nilFunc) := by kernel_rfl
theorem z257 : zeroOf Tryz.prog 257 = some (.nilFunc) := by kernel_rfl
theorem z258 : zeroOf Tryz.prog 258 = some (.nilFunc) := by kernel_rfl
theorem z259 : zeroOf Tryz.prog 259 = some (.nilFunc) := by kernel_rfl
theorem z260 : zeroOf Tryz.prog 260 = some (.nilFunc) := by kernel_rfl
theorem z261 : zeroOf Tryz.prog 261 = some (.nilFunc) := by kernel_rfl
theorem z262 : zeroOf Tryz.prog 262 = some (.nilFunc) := by kernel_rfl
theorem z263 : zeroOf Tryz.prog 263 = some (.nilFunc) := by kernel_rfl
theorem z264 : zeroOf Tryz.prog 264 = some (.nilFunc) := by kernel_rfl
theorem z265 : zeroOf Tryz.prog 265 = some (.nilFunc) := by kernel_rfl
theorem z266 : zeroOf Tryz.prog 266 = some (.nilFunc) := by kernel_rfl
theorem z267 : zeroOf Tryz.prog 267 = some (.nilFunc) := by kernel_rfl
theorem z268 : zeroOf Tryz.prog 268 = some (.nilFunc) := by kernel_rfl
theorem z269 : zeroOf Tryz.prog 269 = some (.nilFunc) := by kernel_rfl
theorem z270 : zeroOf Tryz.prog 270 = some (.nilFunc) := by kernel_rfl
theorem z271 : zeroOf Tryz.prog 271 = some (.nilFunc) := by kernel_rfl
theorem z272 : zeroOf Tryz.prog 272 = some (.nilFunc) := by kernel_rfl
theorem z273 : zeroOf Tryz.prog 273 = some (.nilFunc) := by kernel_rfl
theorem z274 : zeroOf Tryz.prog 274 = some (.nilFunc) := by kernel_rfl
theorem z275 : zeroOf Tryz.prog 275 = some (.nilFunc) := by kernel_rfl
theorem z276 : zeroOf Tryz.prog 276 = some (.nilFunc) := by kernel_rfl
theorem z277 : zeroOf Tryz.prog 277 = some (.nilFunc) := by kernel_rfl
theorem z278 : zeroOf Tryz.prog 278 = some (.nilFunc) := by kernel_rfl
theorem z279 : zeroOf Tryz.prog 279 = some (.nilFunc) := by kernel_rfl
theorem z280 : zeroOf Tryz.prog 280 = some (.nilFunc) := by kernel_rfl
theorem z281 : zeroOf Tryz.prog 281 = some (.nilFunc) := by kernel_rfl
theorem z282 : zeroOf Tryz.prog 282 = some (.nilFunc) := by kernel_rfl
theorem z283 : zeroOf Tryz.prog 283 = some (.nilFunc) := by kernel_rfl
theorem z284 : zeroOf Tryz.prog 284 = some (.nilFunc) := by kernel_rfl
theorem z285 : zeroOf Tryz.prog 285 = some (.nilFunc) := by kernel_rfl
theorem z286 : zeroOf Tryz.prog 286 = some (.nilFunc) := by kernel_rfl
theorem z287 : zeroOf Tryz.prog 287 = some (.nilFunc) := by kernel_rfl
theorem z289 : zeroOf Tryz.prog 289 = some (.nilFunc) := by kernel_rfl
theorem z290 : zeroOf Tryz.prog 290 = some (.nilFunc) := by kernel_rfl
theorem z291 : zeroOf Tryz.prog 291 = some (.nilFunc) := by kernel_rfl
theorem z292 : zeroOf Tryz.prog 292 = some (.pointer none) := by kernel_rfl
theorem z293 : zeroOf Tryz.prog 293 = some (.pointer none) := by kernel_rfl
theorem z294 : zeroOf Tryz.prog 294 = some (.nilFunc) := by kernel_rfl
theorem z295 : zeroOf Tryz.prog 295 = some (.agg ([.pointer none] ++ [.int .i64 0, .int .i64 0] : List Value).toArray) := by kernel_rfl
theorem z296 : zeroOf Tryz.prog 296 = some (.agg ([.pointer none] ++ [.int .i64 0, .int .i64 0] : List Value).toArray) := by kernel_rfl
theorem z297 : zeroOf Tryz.prog 297 = some (.nilFunc) := by kernel_rfl
theorem z298 : zeroOf Tryz.prog 298 = some (.nilFunc) := by kernel_rfl
theorem z299 : zeroOf Tryz.prog 299 = some (.pointer none) := by kernel_rfl
theorem z300 : zeroOf Tryz.prog 300 = some (.nilFunc) := by kernel_rfl
theorem z301 : zeroOf Tryz.prog 301 = some (.nilFunc) := by kernel_rfl
theorem z302 : zeroOf Tryz.prog 302 = some (.nilFunc) := by kernel_rfl
theorem z303 : zeroOf Tryz.prog 303 = some (.nilFunc) := by kernel_rfl
theorem z304 : zeroOf Tryz.prog 304 = some (.nilFunc) := by kernel_rfl
theorem z305 : zeroOf Tryz.prog 305 = some (.nilFunc) := by kernel_rfl
theorem z306 : zeroOf Tryz.prog 306 = some (.nilFunc) := by kernel_rfl
theorem z307 : zeroOf Tryz.prog 307 = some (.nilFunc) := by kernel_rfl
theorem z308 : zeroOf Tryz.prog 308 = some (.nilFunc) := by kernel_rfl
theorem z309 : zeroOf Tryz.prog 309 = some (.nilFunc) := by kernel_rfl
theorem z310 : zeroOf Tryz.prog 310 = some (.nilFunc) := by kernel_rfl
theorem z311 : zeroOf Tryz.prog 311 = some (.nilFunc) := by kernel_rfl
theorem z312 : zeroOf Tryz.prog 312 = some (.nilFunc) := by kernel_rfl
theorem z313 : zeroOf Tryz.prog 313 = some (.nilFunc) := by kernel_rfl
theorem z314 : zeroOf Tryz.prog 314 = some (.nilFunc) := by kernel_rfl
theorem z315 : zeroOf Tryz.prog 315 = some (.nilFunc) := by kernel_rfl
theorem z316 : zeroOf Tryz.prog 316 = some (.nilFunc) := by kernel_rfl
theorem z317 : zeroOf Tryz.prog 317 = some (.nilFunc) := by kernel_rfl
theorem z318 : zeroOf Tryz.prog 318 = some (.nilFunc) := by kernel_rfl
theorem z319 : zeroOf Tryz.prog 319 = some (.nilFunc) := by kernel_rfl
theorem z320 : zeroOf Tryz.prog 320 = some (.nilFunc) := by kernel_rfl
theorem z321 : zeroOf Tryz.prog 321 = some (.nilFunc) := by kernel_rfl
theorem z322 : zeroOf Tryz.prog 322 = some (.nilFunc) := by kernel_rfl
theorem z323 : zeroOf Tryz.prog 323 = some (.nilFunc) := by kernel_rfl
theorem z324 : zeroOf Tryz.prog 324 = some (.nilFunc) := by kernel_rfl
theorem z325 : zeroOf Tryz.prog 325 = some (.nilFunc) := by kernel_rfl
theorem z326 : zeroOf Tryz.prog 326 = some (.nilFunc) := by kernel_rfl
theorem z327 : zeroOf Tryz.prog 327 = some (.nilFunc) := by kernel_rfl
theorem z328 : zeroOf Tryz.prog 328 = some (.nilFunc) := by kernel_rfl
theorem z329 : zeroOf Tryz.prog 329 = some (.nilFunc) := by kernel_rfl
theorem z330 : zeroOf Tryz.prog 330 = some (.nilFunc) := by kernel_rfl
theorem z331 : zeroOf Tryz.prog 331 = some (.nilFunc) := by kernel_rfl
theorem z332 : zeroOf Tryz.prog 332 = some (.nilFunc) := by kernel_rfl
theorem z333 : zeroOf Tryz.prog 333 = some (.nilFunc) := by kernel_rfl
theorem z334 : zeroOf Tryz.prog 334 = some (.nilFunc) := by kernel_rfl
theorem z335 : zeroOf Tryz.prog 335 = some (.pointer none) := by kernel_rfl
theorem z336 : zeroOf Tryz.prog 336 = some (.nilFunc) := by kernel_rfl
theorem z337 : zeroOf Tryz.prog 337 = some (.nilFunc) := by kernel_rfl
theorem z338 : zeroOf Tryz.prog 338 = some (.nilFunc) := by kernel_rfl
theorem z339 : zeroOf Tryz.prog 339 = some (.agg (List.replicate 32 (.int .u8 0) ++ [.pointer none, .pointer none] ++ [.int .u64 0] : List Value).toArray) := by kernel_rfl
theorem z340 : zeroOf Tryz.prog 340 = some (.agg (List.replicate 32 (.int .u8 0) ++ [.pointer none, .pointer none] ++ [.int .u64 0] : List Value).toArray) := by kernel_rfl
theorem z341 : zeroOf Tryz.prog 341 = some (.nilFunc) := by kernel_rfl
theorem z342 : zeroOf Tryz.prog 342 = some (.nilFunc) := by kernel_rfl
theorem z343 : zeroOf Tryz.prog 343 = some (.nilFunc) := by kernel_rfl
theorem z345 : zeroOf Tryz.prog 345 = some (.nilFunc) := by kernel_rfl
theorem z346 : zeroOf Tryz.prog 346 = some (.nilFunc) := by kernel_rfl
theorem z347 : zeroOf Tryz.prog 347 = some (.nilFunc) := by kernel_rfl
theorem z348 : zeroOf Tryz.prog 348 = some (.nilFunc) := by kernel_rfl
theorem z349 : zeroOf Tryz.prog 349 = some (.nilFunc) := by kernel_rfl
theorem z351 : zeroOf Tryz.prog 351 = some (.nilFunc) := by kernel_rfl
theorem z352 : zeroOf Tryz.prog 352 = some (.nilFunc) := by kernel_rfl
theorem z353 : zeroOf Tryz.prog 353 = some (.nilFunc) := by kernel_rfl
theorem z354 : zeroOf Tryz.prog 354 = some (.agg ([.int .i64 0] : List Value).toArray) := by kernel_rfl
theorem z355 : zeroOf Tryz.prog 355 = some (.agg ([.int .i64 0] : List Value).toArray) := by kernel_rfl
theorem z356 : zeroOf Tryz.prog 356 = some (.nilFunc) := by kernel_rfl
theorem z357 : zeroOf Tryz.prog 357 = some (.nilFunc) := by kernel_rfl
theorem z358 : zeroOf Tryz.prog 358 = some (.nilFunc) := by kernel_rfl
theorem z359 : zeroOf Tryz.prog 359 = some (.nilFunc) := by kernel_rfl
theorem z360 : zeroOf Tryz.prog 360 = some (.int .u64 0) := by kernel_rfl
theorem z361 : zeroOf Tryz.prog 361 = some (.nilFunc) := by kernel_rfl
theorem z362 : zeroOf Tryz.prog 362 = some (.nilFunc) := by kernel_rfl
theorem z363 : zeroOf Tryz.prog 363 = some (.nilFunc) := by kernel_rfl
theorem z364 : zeroOf Tryz.prog 364 = some (.nilFunc) := by kernel_rfl
theorem z365 : zeroOf Tryz.prog 365 = some (.nilFunc) := by kernel_rfl
theorem z366 : zeroOf Tryz.prog 366 = some (.agg ([.slice none 0 0] ++ [.int .i64 0, .int .i64 0] : List Value).toArray) := by kernel_rfl
theorem z367 : zeroOf Tryz.prog 367 = some (.agg ([.slice none 0 0] ++ [.int .i64 0, .int .i64 0] : List Value).toArray) := by kernel_rfl
theorem z369 : zeroOf Tryz.prog 369 = some (.nilFunc) := by kernel_rfl
theorem z371 : zeroOf Tryz.prog 371 = some (.nilFunc) := by kernel_rfl
theorem z372 : zeroOf Tryz.prog 372 = some (.nilFunc) := by kernel_rfl
theorem z374 : zeroOf Tryz.prog 374 = some (.nilFunc) := by kernel_rfl
theorem z376 : zeroOf Tryz.prog 376 = some (.nilFunc) := by kernel_rfl
theorem z378 : zeroOf Tryz.prog 378 = some (.nilFunc) := by kernel_rfl
theorem z380 : zeroOf Tryz.prog 380 = some (.nilFunc) := by kernel_rfl
theorem z381 : zeroOf Tryz.prog 381 = some (.nilFunc) := by kernel_rfl
theorem z383 : zeroOf Tryz.prog 383 = some (.nilFunc) := by kernel_rfl
theorem z384 : zeroOf Tryz.prog 384 = some (.nilFunc) := by kernel_rfl
theorem z385 : zeroOf Tryz.prog 385 = some (.agg ([.slice none 0 0] ++ [.int .i64 0, .int .i64 0] : List Value).toArray) := by kernel_rfl
theorem z386 : zeroOf Tryz.prog 386 = some (.agg ([.slice none 0 0] ++ [.int .i64 0, .int .i64 0] : List Value).toArray) := by kernel_rfl
theorem z387 : zeroOf Tryz.prog 387 = some (.nilFunc) := by kernel_rfl
theorem z388 : zeroOf Tryz.prog 388 = some (.nilFunc) := by kernel_rfl
theorem z389 : zeroOf Tryz.prog 389 = some (.nilFunc) := by kernel_rfl
theorem z390 : zeroOf Tryz.prog 390 = some (.nilFunc) := by kernel_rfl
theorem z391 : zeroOf Tryz.prog 391 = some (.nilFunc) := by kernel_rfl
theorem z392 : zeroOf Tryz.prog 392 = some (.nilFunc) := by kernel_rfl
theorem z393 : zeroOf Tryz.prog 393 = some (.nilFunc) := by kernel_rfl
theorem z394 : zeroOf Tryz.prog 394 = some (.nilFunc) := by kernel_rfl
theorem z395 : zeroOf Tryz.prog 395 = some (.nilFunc) := by kernel_rfl
theorem z396 : zeroOf Tryz.prog 396 = some (.nilFunc) := by kernel_rfl
theorem z397 : zeroOf Tryz.prog 397 = some (.nilFunc) := by kernel_rfl
theorem z398 : zeroOf Tryz.prog 398 = some (.nilFunc) := by kernel_rfl
theorem z399 : zeroOf Tryz.prog 399 = some (.nilFunc) := by kernel_rfl
theorem z400 : zeroOf Tryz.prog 400 = some (.nilFunc) := by kernel_rfl
theorem z401 : zeroOf Tryz.prog 401 = some (.nilFunc) := by kernel_rfl
theorem z402 : zeroOf Tryz.prog 402 = some (.nilFunc) := by kernel_rfl
theorem z403 : zeroOf Tryz.prog 403 = some (.nilFunc) := by kernel_rfl
theorem z404 : zeroOf Tryz.prog 404 = some (.nilFunc) := by kernel_rfl
theorem z405 : zeroOf Tryz.prog 405 = some (.nilFunc) := by kernel_rfl
theorem z406 : zeroOf Tryz.prog 406 = some (.int .u32 0) := by kernel_rfl
theorem z407 : zeroOf Tryz.prog 407 = some (.agg (List.replicate 8 (.int .u32 0) : List Value).toArray) := by kernel_rfl
theorem z408 : zeroOf Tryz.prog 408 = some (.agg (List.replicate 64 (.int .u8 0) : List Value).toArray) := by kernel_rfl
theorem z409 : zeroOf Tryz.prog 409 = some (.agg (List.replicate 8 (.int .u32 0) ++ [.bool false] ++ List.replicate 64 (.int .u8 0) ++ [.int .u64 0] : List Value).toArray) := by kernel_rfl
theorem z410 : zeroOf Tryz.prog 410 = some (.agg (List.replicate 8 (.int .u32 0) ++ [.bool false] ++ List.replicate 64 (.int .u8 0) ++ [.int .u64 0] : List Value).toArray) := by kernel_rfl
theorem z411 : zeroOf Tryz.prog 411 = some (.nilFunc) := by kernel_rfl
theorem z412 : zeroOf Tryz.prog 412 = some (.nilFunc) := by kernel_rfl
theorem z413 : zeroOf Tryz.prog 413 = some (.nilFunc) := by kernel_rfl
theorem z414 : zeroOf Tryz.prog 414 = some (.pointer none) := by kernel_rfl
theorem z415 : zeroOf Tryz.prog 415 = some (.nilFunc) := by kernel_rfl
theorem z416 : zeroOf Tryz.prog 416 = some (.pointer none) := by kernel_rfl
theorem z417 : zeroOf Tryz.prog 417 = some (.nilFunc) := by kernel_rfl
theorem z418 : zeroOf Tryz.prog 418 = some (.nilFunc) := by kernel_rfl
theorem z420 : zeroOf Tryz.prog 420 = some (.nilFunc) := by kernel_rfl
theorem z421 : zeroOf Tryz.prog 421 = some (.nilFunc) := by kernel_rfl
theorem z423 : zeroOf Tryz.prog 423 = some (.nilFunc) := by kernel_rfl
theorem z425 : zeroOf Tryz.prog 425 = some (.nilFunc) := by kernel_rfl
theorem z426 : zeroOf Tryz.prog 426 = some (.nilFunc) := by kernel_rfl
theorem z428 : zeroOf Tryz.prog 428 = some (.nilFunc) := by kernel_rfl
theorem z429 : zeroOf Tryz.prog 429 = some (.nilFunc) := by kernel_rfl
theorem z430 : zeroOf Tryz.prog 430 = some (.pointer none) := by kernel_rfl
theorem z431 : zeroOf Tryz.prog 431 = some (.nilFunc) := by kernel_rfl
theorem z432 : zeroOf Tryz.prog 432 = some (.nilFunc) := by kernel_rfl
theorem z433 : zeroOf Tryz.prog 433 = some (.nilFunc) := by kernel_rfl
theorem z434 : zeroOf Tryz.prog 434 = some (.nilFunc) := by kernel_rfl
theorem z435 : zeroOf Tryz.prog 435 = some (.nilFunc) := by kernel_rfl
theorem z437 : zeroOf Tryz.prog 437 = some (.nilFunc) := by kernel_rfl
theorem z438 : zeroOf Tryz.prog 438 = some (.nilFunc) := by kernel_rfl
theorem z439 : zeroOf Tryz.prog 439 = some (.nilFunc) := by kernel_rfl
theorem z440 : zeroOf Tryz.prog 440 = some (.nilFunc) := by kernel_rfl
theorem z441 : zeroOf Tryz.prog 441 = some (.agg (List.replicate 64 (.int .u32 0) : List Value).toArray) := by kernel_rfl
theorem z442 : zeroOf Tryz.prog 442 = some (.nilFunc) := by kernel_rfl
theorem z443 : zeroOf Tryz.prog 443 = some (.nilFunc) := by kernel_rfl
theorem z444 : zeroOf Tryz.prog 444 = some (.nilFunc) := by kernel_rfl
theorem z446 : zeroOf Tryz.prog 446 = some (.nilFunc) := by kernel_rfl
theorem z448 : zeroOf Tryz.prog 448 = some (.nilFunc) := by kernel_rfl
theorem z449 : zeroOf Tryz.prog 449 = some (.agg ([.int .i64 0] : List Value).toArray) := by kernel_rfl
theorem z450 : zeroOf Tryz.prog 450 = some (.agg ([.int .i64 0] : List Value).toArray) := by kernel_rfl
theorem z452 : zeroOf Tryz.prog 452 = some (.agg (List.replicate 64 (.int .u8 0) : List Value).toArray) := by kernel_rfl
theorem z453 : zeroOf Tryz.prog 453 = some (.agg (List.replicate 64 (.int .u8 0) : List Value).toArray) := by kernel_rfl
theorem z455 : zeroOf Tryz.prog 455 = some (.nilFunc) := by kernel_rfl
theorem z456 : zeroOf Tryz.prog 456 = some (.nilFunc) := by kernel_rfl
theorem z457 : zeroOf Tryz.prog 457 = some (.nilFunc) := by kernel_rfl
theorem z458 : zeroOf Tryz.prog 458 = some (.nilFunc) := by kernel_rfl
theorem z459 : zeroOf Tryz.prog 459 = some (.nilFunc) := by kernel_rfl
theorem z460 : zeroOf Tryz.prog 460 = some (.nilFunc) := by kernel_rfl
theorem z462 : zeroOf Tryz.prog 462 = some (.nilFunc) := by kernel_rfl
theorem z463 : zeroOf Tryz.prog 463 = some (.nilFunc) := by kernel_rfl
theorem z464 : zeroOf Tryz.prog 464 = some (.nilFunc) := by kernel_rfl
theorem z465 : zeroOf Tryz.prog 465 = some (.agg ([.pointer none, .pointer none, .pointer none] ++ [.string ByteArray.empty] : List Value).toArray) := by kernel_rfl
theorem z466 : zeroOf Tryz.prog 466 = some (.agg ([.pointer none, .pointer none, .pointer none] ++ [.string ByteArray.empty] : List Value).toArray) := by kernel_rfl
theorem z467 : zeroOf Tryz.prog 467 = some (.agg ([] : List Value).toArray) := by kernel_rfl
theorem z468 : zeroOf Tryz.prog 468 = some (.agg ([] : List Value).toArray) := by kernel_rfl
theorem z469 : zeroOf Tryz.prog 469 = some (.agg ([] : List Value).toArray) := by kernel_rfl
theorem z470 : zeroOf Tryz.prog 470 = some (.int .u8 0) := by kernel_rfl
theorem z471 : zeroOf Tryz.prog 471 = some (.int .u8 0) := by kernel_rfl
theorem z472 : zeroOf Tryz.prog 472 = some (.nilFunc) := by kernel_rfl
theorem z473 : zeroOf Tryz.prog 473 = some (.pointer none) := by kernel_rfl
theorem z474 : zeroOf Tryz.prog 474 = some (.int .i32 0) := by kernel_rfl
theorem z475 : zeroOf Tryz.prog 475 = some (.int .i32 0) := by kernel_rfl
theorem z476 : zeroOf Tryz.prog 476 = some (.agg ([.int .u64 0, .int .u64 0] ++ [.int .u32 0] ++ List.replicate 4 (.int .u8 0) ++ [.nilFunc] ++ [.pointer none] ++ [.int .i32 0, .int .i32 0] : List Value).toArray) := by kernel_rfl
theorem z477 : zeroOf Tryz.prog 477 = some (.agg ([.int .u64 0, .int .u64 0] ++ [.int .u32 0] ++ List.replicate 4 (.int .u8 0) ++ [.nilFunc] ++ [.pointer none] ++ [.int .i32 0, .int .i32 0] : List Value).toArray) := by kernel_rfl
theorem z478 : zeroOf Tryz.prog 478 = some (.pointer none) := by kernel_rfl
theorem mixed : Tryz.prog.follows .mixedOrders = true := by kernel_rfl
/-! The rules of the walks, bundled. -/
set_option maxRecDepth 100000 in
theorem VD : type_of% (And.intro (@h_nil) (And.intro (@h_cons) (And.intro (@h_two) (And.intro (@h_load) (And.intro (@h_len) (And.intro (@h_store) (And.intro (@h_alloc) (And.intro (@h_box) (And.intro (@h_bld) (And.intro (@h_call) (And.intro (@h_app) (And.intro (@h_copy) (And.intro (@h_make) (And.intro (@h_move) (And.intro (@h_assign) (And.intro (@h_pick) (And.intro (@h_bin) (And.intro (@h_un) (And.intro (@h_conv) (And.intro (@h_nilC) (And.intro (@h_fldA) (And.intro (@h_fld) (And.intro (@h_idxA) (And.intro (@h_idx) (And.intro (@h_sl) (And.intro (@h_ext) (And.intro (@h_mkI) (And.intro (@h_mkF) (And.intro (@h_bv) (And.intro (@p_bv) (And.intro (@o_bv) (And.intro (@q_bv) (And.intro (@h_asr) (And.intro (@v_skip) (And.intro (@v_region) (And.intro (@v_draw) (And.intro (@v_seq) (And.intro (@v_cond) (And.intro (@v_block) (And.intro (@v_loop) (And.intro (@v_exit) (And.intro (@v_ret) (And.intro (@s_normal) (And.intro (@s_exit) (And.intro (@s_ret) (And.intro (@b_normal) (And.intro (@b_exit_eq) (And.intro (@b_exit_ne) (And.intro (@b_ret) (And.intro (@k_normal) (And.intro (@k_hit) (And.intro (@k_miss) (And.intro (@k_ret) (And.intro (@ops_nil) (And.intro (@ops_cons) (And.intro (@ops_grd) (And.intro (@q_nil) (And.intro (@q_cons) (And.intro (@q_grd) (And.intro (@p_move) (And.intro (@o_move) (And.intro (@q_move) (And.intro (@p_assign) (And.intro (@o_assign) (And.intro (@q_assign) (And.intro (@p_pick) (And.intro (@o_pick) (And.intro (@q_pick) (And.intro (@p_bin) (And.intro (@o_bin) (And.intro (@q_bin) (And.intro (@p_un) (And.intro (@o_un) (And.intro (@q_un) (And.intro (@p_conv) (And.intro (@o_conv) (And.intro (@q_conv) (And.intro (@p_nilC) (And.intro (@o_nilC) (And.intro (@q_nilC) (And.intro (@p_fldA) (And.intro (@o_fldA) (And.intro (@q_fldA) (And.intro (@p_fld) (And.intro (@o_fld) (And.intro (@q_fld) (And.intro (@p_idxA) (And.intro (@o_idxA) (And.intro (@q_idxA) (And.intro (@p_idx) (And.intro (@o_idx) (And.intro (@q_idx) (And.intro (@p_sl) (And.intro (@o_sl) (And.intro (@p_sl3) (And.intro (@o_sl3) (And.intro (@q_sl) (And.intro (@p_ext) (And.intro (@o_ext) (And.intro (@q_ext) (And.intro (@p_mkI) (And.intro (@o_mkI) (And.intro (@q_mkI) (And.intro (@p_mkF) (And.intro (@o_mkF) (And.intro (@q_mkF) (And.intro (@p_asr) (And.intro (@o_asr) (And.intro (@q_asr) (And.intro (@o_load) (And.intro (@o_store) (And.intro (@o_alloc) (And.intro (@o_box) (And.intro (@o_bld) (And.intro (@o_call) (And.intro (@o_len) (And.intro (@o_app) (And.intro (@o_cap) (And.intro (@v_rangeFunc) (And.intro (@o_copy) (And.intro (@o_clear) (And.intro (@o_make) (And.intro (@o_min) (And.intro (@o_max) (And.intro (@q_load) (And.intro (@q_call) (And.intro (@q_len) (And.intro (@e_tmp) (And.intro (@e_const) (And.intro (@e_func) (And.intro (@e_glob) (And.intro (@upd_eq) (And.intro (@upd_ne) (And.intro (@uO_some) (@uO_none))))))))))))))))))))))))))))))))))))))))))))))))))))))))))))))))))))))))))))))))))))))))))))))))))))))))))))))))))))))))))))))))))))))) := And.intro (@h_nil) (And.intro (@h_cons) (And.intro (@h_two) (And.intro (@h_load) (And.intro (@h_len) (And.intro (@h_store) (And.intro (@h_alloc) (And.intro (@h_box) (And.intro (@h_bld) (And.intro (@h_call) (And.intro (@h_app) (And.intro (@h_copy) (And.intro (@h_make) (And.intro (@h_move) (And.intro (@h_assign) (And.intro (@h_pick) (And.intro (@h_bin) (And.intro (@h_un) (And.intro (@h_conv) (And.intro (@h_nilC) (And.intro (@h_fldA) (And.intro (@h_fld) (And.intro (@h_idxA) (And.intro (@h_idx) (And.intro (@h_sl) (And.intro (@h_ext) (And.intro (@h_mkI) (And.intro (@h_mkF) (And.intro (@h_bv) (And.intro (@p_bv) (And.intro (@o_bv) (And.intro (@q_bv) (And.intro (@h_asr) (And.intro (@v_skip) (And.intro (@v_region) (And.intro (@v_draw) (And.intro (@v_seq) (And.intro (@v_cond) (And.intro (@v_block) (And.intro (@v_loop) (And.intro (@v_exit) (And.intro (@v_ret) (And.intro (@s_normal) (And.intro (@s_exit) (And.intro (@s_ret) (And.intro (@b_normal) (And.intro (@b_exit_eq) (And.intro (@b_exit_ne) (And.intro (@b_ret) (And.intro (@k_normal) (And.intro (@k_hit) (And.intro (@k_miss) (And.intro (@k_ret) (And.intro (@ops_nil) (And.intro (@ops_cons) (And.intro (@ops_grd) (And.intro (@q_nil) (And.intro (@q_cons) (And.intro (@q_grd) (And.intro (@p_move) (And.intro (@o_move) (And.intro (@q_move) (And.intro (@p_assign) (And.intro (@o_assign) (And.intro (@q_assign) (And.intro (@p_pick) (And.intro (@o_pick) (And.intro (@q_pick) (And.intro (@p_bin) (And.intro (@o_bin) (And.intro (@q_bin) (And.intro (@p_un) (And.intro (@o_un) (And.intro (@q_un) (And.intro (@p_conv) (And.intro (@o_conv) (And.intro (@q_conv) (And.intro (@p_nilC) (And.intro (@o_nilC) (And.intro (@q_nilC) (And.intro (@p_fldA) (And.intro (@o_fldA) (And.intro (@q_fldA) (And.intro (@p_fld) (And.intro (@o_fld) (And.intro (@q_fld) (And.intro (@p_idxA) (And.intro (@o_idxA) (And.intro (@q_idxA) (And.intro (@p_idx) (And.intro (@o_idx) (And.intro (@q_idx) (And.intro (@p_sl) (And.intro (@o_sl) (And.intro (@p_sl3) (And.intro (@o_sl3) (And.intro (@q_sl) (And.intro (@p_ext) (And.intro (@o_ext) (And.intro (@q_ext) (And.intro (@p_mkI) (And.intro (@o_mkI) (And.intro (@q_mkI) (And.intro (@p_mkF) (And.intro (@o_mkF) (And.intro (@q_mkF) (And.intro (@p_asr) (And.intro (@o_asr) (And.intro (@q_asr) (And.intro (@o_load) (And.intro (@o_store) (And.intro (@o_alloc) (And.intro (@o_box) (And.intro (@o_bld) (And.intro (@o_call) (And.intro (@o_len) (And.intro (@o_app) (And.intro (@o_cap) (And.intro (@v_rangeFunc) (And.intro (@o_copy) (And.intro (@o_clear) (And.intro (@o_make) (And.intro (@o_min) (And.intro (@o_max) (And.intro (@q_load) (And.intro (@q_call) (And.intro (@q_len) (And.intro (@e_tmp) (And.intro (@e_const) (And.intro (@e_func) (And.intro (@e_glob) (And.intro (@upd_eq) (And.intro (@upd_ne) (And.intro (@uO_some) (@uO_none))))))))))))))))))))))))))))))))))))))))))))))))))))))))))))))))))))))))))))))))))))))))))))))))))))))))))))))))))))))))))))))))))))))
set_option maxRecDepth 100000 in
theorem VJ : type_of% (And.intro (@h_nil) (And.intro (@h_cons) (And.intro (@h_two) (And.intro (@h_load) (And.intro (@h_len) (And.intro (@h_store) (And.intro (@h_alloc) (And.intro (@h_box) (And.intro (@h_bld) (And.intro (@h_call) (And.intro (@h_app) (And.intro (@h_copy) (And.intro (@h_make) (And.intro (@h_move) (And.intro (@h_assign) (And.intro (@h_pick) (And.intro (@h_bin) (And.intro (@h_un) (And.intro (@h_conv) (And.intro (@h_nilC) (And.intro (@h_fldA) (And.intro (@h_fld) (And.intro (@h_idxA) (And.intro (@h_idx) (And.intro (@h_sl) (And.intro (@h_ext) (And.intro (@h_mkI) (And.intro (@h_mkF) (And.intro (@h_bv) (And.intro (@p_bv) (And.intro (@o_bv) (And.intro (@q_bv) (And.intro (@h_asr) (And.intro (@v_skip) (And.intro (@v_region) (And.intro (@v_draw) (And.intro (@v_seq) (And.intro (@v_block) (And.intro (@v_loop) (And.intro (@v_exit) (And.intro (@v_ret) (And.intro (@s_normal) (And.intro (@s_exit) (And.intro (@s_ret) (And.intro (@b_normal) (And.intro (@b_exit_eq) (And.intro (@b_exit_ne) (And.intro (@b_ret) (And.intro (@k_normal) (And.intro (@k_hit) (And.intro (@k_miss) (And.intro (@k_ret) (And.intro (@ops_nil) (And.intro (@ops_cons) (And.intro (@ops_grd) (And.intro (@q_nil) (And.intro (@q_cons) (And.intro (@q_grd) (And.intro (@p_move) (And.intro (@o_move) (And.intro (@q_move) (And.intro (@p_assign) (And.intro (@o_assign) (And.intro (@q_assign) (And.intro (@p_pick) (And.intro (@o_pick) (And.intro (@q_pick) (And.intro (@p_bin) (And.intro (@o_bin) (And.intro (@q_bin) (And.intro (@p_un) (And.intro (@o_un) (And.intro (@q_un) (And.intro (@p_conv) (And.intro (@o_conv) (And.intro (@q_conv) (And.intro (@p_nilC) (And.intro (@o_nilC) (And.intro (@q_nilC) (And.intro (@p_fldA) (And.intro (@o_fldA) (And.intro (@q_fldA) (And.intro (@p_fld) (And.intro (@o_fld) (And.intro (@q_fld) (And.intro (@p_idxA) (And.intro (@o_idxA) (And.intro (@q_idxA) (And.intro (@p_idx) (And.intro (@o_idx) (And.intro (@q_idx) (And.intro (@p_sl) (And.intro (@o_sl) (And.intro (@p_sl3) (And.intro (@o_sl3) (And.intro (@q_sl) (And.intro (@p_ext) (And.intro (@o_ext) (And.intro (@q_ext) (And.intro (@p_mkI) (And.intro (@o_mkI) (And.intro (@q_mkI) (And.intro (@p_mkF) (And.intro (@o_mkF) (And.intro (@q_mkF) (And.intro (@p_asr) (And.intro (@o_asr) (And.intro (@q_asr) (And.intro (@o_load) (And.intro (@o_store) (And.intro (@o_alloc) (And.intro (@o_box) (And.intro (@o_bld) (And.intro (@o_call) (And.intro (@o_len) (And.intro (@o_app) (And.intro (@o_cap) (And.intro (@v_rangeFunc) (And.intro (@o_copy) (And.intro (@o_clear) (And.intro (@o_make) (And.intro (@o_min) (And.intro (@o_max) (And.intro (@q_load) (And.intro (@q_call) (And.intro (@q_len) (And.intro (@e_tmp) (And.intro (@e_const) (And.intro (@e_func) (And.intro (@e_glob) (And.intro (@upd_eq) (And.intro (@upd_ne) (And.intro (@uO_some) (@uO_none)))))))))))))))))))))))))))))))))))))))))))))))))))))))))))))))))))))))))))))))))))))))))))))))))))))))))))))))))))))))))))))))))))))) := And.intro (@h_nil) (And.intro (@h_cons) (And.intro (@h_two) (And.intro (@h_load) (And.intro (@h_len) (And.intro (@h_store) (And.intro (@h_alloc) (And.intro (@h_box) (And.intro (@h_bld) (And.intro (@h_call) (And.intro (@h_app) (And.intro (@h_copy) (And.intro (@h_make) (And.intro (@h_move) (And.intro (@h_assign) (And.intro (@h_pick) (And.intro (@h_bin) (And.intro (@h_un) (And.intro (@h_conv) (And.intro (@h_nilC) (And.intro (@h_fldA) (And.intro (@h_fld) (And.intro (@h_idxA) (And.intro (@h_idx) (And.intro (@h_sl) (And.intro (@h_ext) (And.intro (@h_mkI) (And.intro (@h_mkF) (And.intro (@h_bv) (And.intro (@p_bv) (And.intro (@o_bv) (And.intro (@q_bv) (And.intro (@h_asr) (And.intro (@v_skip) (And.intro (@v_region) (And.intro (@v_draw) (And.intro (@v_seq) (And.intro (@v_block) (And.intro (@v_loop) (And.intro (@v_exit) (And.intro (@v_ret) (And.intro (@s_normal) (And.intro (@s_exit) (And.intro (@s_ret) (And.intro (@b_normal) (And.intro (@b_exit_eq) (And.intro (@b_exit_ne) (And.intro (@b_ret) (And.intro (@k_normal) (And.intro (@k_hit) (And.intro (@k_miss) (And.intro (@k_ret) (And.intro (@ops_nil) (And.intro (@ops_cons) (And.intro (@ops_grd) (And.intro (@q_nil) (And.intro (@q_cons) (And.intro (@q_grd) (And.intro (@p_move) (And.intro (@o_move) (And.intro (@q_move) (And.intro (@p_assign) (And.intro (@o_assign) (And.intro (@q_assign) (And.intro (@p_pick) (And.intro (@o_pick) (And.intro (@q_pick) (And.intro (@p_bin) (And.intro (@o_bin) (And.intro (@q_bin) (And.intro (@p_un) (And.intro (@o_un) (And.intro (@q_un) (And.intro (@p_conv) (And.intro (@o_conv) (And.intro (@q_conv) (And.intro (@p_nilC) (And.intro (@o_nilC) (And.intro (@q_nilC) (And.intro (@p_fldA) (And.intro (@o_fldA) (And.intro (@q_fldA) (And.intro (@p_fld) (And.intro (@o_fld) (And.intro (@q_fld) (And.intro (@p_idxA) (And.intro (@o_idxA) (And.intro (@q_idxA) (And.intro (@p_idx) (And.intro (@o_idx) (And.intro (@q_idx) (And.intro (@p_sl) (And.intro (@o_sl) (And.intro (@p_sl3) (And.intro (@o_sl3) (And.intro (@q_sl) (And.intro (@p_ext) (And.intro (@o_ext) (And.intro (@q_ext) (And.intro (@p_mkI) (And.intro (@o_mkI) (And.intro (@q_mkI) (And.intro (@p_mkF) (And.intro (@o_mkF) (And.intro (@q_mkF) (And.intro (@p_asr) (And.intro (@o_asr) (And.intro (@q_asr) (And.intro (@o_load) (And.intro (@o_store) (And.intro (@o_alloc) (And.intro (@o_box) (And.intro (@o_bld) (And.intro (@o_call) (And.intro (@o_len) (And.intro (@o_app) (And.intro (@o_cap) (And.intro (@v_rangeFunc) (And.intro (@o_copy) (And.intro (@o_clear) (And.intro (@o_make) (And.intro (@o_min) (And.intro (@o_max) (And.intro (@q_load) (And.intro (@q_call) (And.intro (@q_len) (And.intro (@e_tmp) (And.intro (@e_const) (And.intro (@e_func) (And.intro (@e_glob) (And.intro (@upd_eq) (And.intro (@upd_ne) (And.intro (@uO_some) (@uO_none)))))))))))))))))))))))))))))))))))))))))))))))))))))))))))))))))))))))))))))))))))))))))))))))))))))))))))))))))))))))))))))))))))))
set_option maxRecDepth 100000 in
theorem VP : type_of% (And.intro (@hO_plain) (And.intro (@hO_grd) (And.intro (@hG_some) (And.intro (@r_normal) (And.intro (@r_ret) (And.intro (@res0) (And.intro (@res1) (And.intro (@res2) (And.intro (@res3) (And.intro (@res4) (And.intro (@resC) (And.intro (@resC2) (And.intro (@resC4) (And.intro (@grdT_some) (And.intro (@grdQ_some) (And.intro (@binO_some) (And.intro (@binD_int) (And.intro (@binD_string) (And.intro (@binD_bool) (And.intro (@binD_pointer) (And.intro (@binD_slice) (And.intro (@binD_array) (And.intro (@binD_struct) (And.intro (@binD_iface) (And.intro (@eqO_eql) (And.intro (@eqO_neq) (And.intro (@fldAO_struct) (And.intro (@fldA_some) (And.intro (@fldO_struct) (And.intro (@fldV_some) (And.intro (@partO_t) (And.intro (@partO_f) (And.intro (@idxAO_array) (And.intro (@idxAO_slice) (And.intro (@idxO_array) (And.intro (@slO_array) (And.intro (@slO_slice) (And.intro (@sl3O_slice) (And.intro (@bound_some) (And.intro (@bound_none) (And.intro (@convO_int) (And.intro (@cvE_int) (And.intro (@cvH_int) (And.intro (@cvH_slice) (And.intro (@cvH_string) (And.intro (@apE_same) (And.intro (@apE_other) (And.intro (@capO_slice) (And.intro (@cvE_string) (And.intro (@cvE_slice) (And.intro (@cvQ_int) (And.intro (@cvQ_string) (And.intro (@ifO_pointer) (And.intro (@ifO_struct) (And.intro (@ifO_int) (And.intro (@asrO_pointer) (And.intro (@asrV_nil) (And.intro (@asrV_hit) (And.intro (@valV_go) (And.intro (@pickV_t) (And.intro (@pickV_f) (And.intro (@un_not) (And.intro (@un_neg) (And.intro (@un_xor) (And.intro (@lenO_slice) (And.intro (@lenO_string) (And.intro (@lenO_array) (And.intro (@bldO_slice) (And.intro (@parts_nil) (And.intro (@parts_cons) (And.intro (@pok_nil) (And.intro (@pok_cons) (And.intro (@init_nil) (And.intro (@init_cons) (And.intro (@d_some) (And.intro (@d_none) (And.intro (@intV_lit) (And.intro (@boolV_lit) (And.intro (@ptrV_lit) (And.intro (@slcV_lit) (And.intro (@adrV_lit) (And.intro (@aggV_lit) (And.intro (@tupV_lit) (And.intro (@grdV_u) (And.intro (@grdV_bt) (And.intro (@grdV_bf) (And.intro (@cndV_b) (And.intro (@bsplit_t) (And.intro (@bsplit_f) (And.intro (@bsplit_d) (And.intro (@bsplit_n) (And.intro (@add_lit) (And.intro (@sub_lit) (And.intro (@mul_lit) (And.intro (@quo_lit) (And.intro (@rem_lit) (And.intro (@and_lit) (And.intro (@or_lit) (And.intro (@xor_lit) (And.intro (@andNot_lit) (And.intro (@shl_lit) (And.intro (@shr_lit) (And.intro (@eql_lit) (And.intro (@neq_lit) (And.intro (@lss_lit) (And.intro (@leq_lit) (And.intro (@gtr_lit) (And.intro (@geq_lit) (And.intro (@eqb_lit) (And.intro (@eqp_lit) (And.intro (@eqs_lit) (And.intro (@Option.map_some.{0,0}) (And.intro (@Option.bind_some.{0,0}) (And.intro (@List.map_cons.{0,0}) (And.intro (@List.map_nil.{0,0}) (And.intro (@List.map_toArray.{0,0}) (And.intro (@List.getElem?_cons_zero.{0}) (And.intro (@List.getElem?_cons_succ.{0}) (And.intro (@List.getElem?_toArray.{0}) (And.intro (@Option.some.injEq.{0}) (And.intro (@exists_eq_left'.{1}) (And.intro (@not_true_eq_false) (And.intro (@not_false_eq_true) (And.intro (@false_implies) (And.intro (@Classical.not_not) (And.intro (@true_and) (And.intro (@and_true) (And.intro (@true_implies) (And.intro (@ne_eq.{1}) (And.intro (@not_false_eq_true) (And.intro (@Bool.false_eq_true) (And.intro (@Bool.not_true) (And.intro (@Bool.not_false) (And.intro (@Int.cast_ofNat_Int) (And.intro (@decide_true) (And.intro (@decide_false) (And.intro (@decide_eq_true_eq) (And.intro (@Nat.mul_one) (And.intro (@Nat.one_mul) (And.intro (@Nat.zero_add) (And.intro (@Nat.add_zero) (And.intro (@List.append_nil.{0}) (And.intro (@List.nil_append.{0}) (And.intro (@List.cons_append.{0}) (And.intro (@List.size_toArray.{0}) (And.intro (@List.length_replicate.{0}) (And.intro (@Value.int.injEq) (And.intro (@Value.bool.injEq) (And.intro (@cells_agg) (And.intro (@cells_int) (And.intro (@cells_bool) (And.intro (@cells_sl) (And.intro (@cells_ptr) (And.intro (@Int.toNat_natCast) (@List.toList_toArray.{0}))))))))))))))))))))))))))))))))))))))))))))))))))))))))))))))))))))))))))))))))))))))))))))))))))))))))))))))))))))))))))))))))))))))))))))))))))))))))))) := And.intro (@hO_plain) (And.intro (@hO_grd) (And.intro (@hG_some) (And.intro (@r_normal) (And.intro (@r_ret) (And.intro (@res0) (And.intro (@res1) (And.intro (@res2) (And.intro (@res3) (And.intro (@res4) (And.intro (@resC) (And.intro (@resC2) (And.intro (@resC4) (And.intro (@grdT_some) (And.intro (@grdQ_some) (And.intro (@binO_some) (And.intro (@binD_int) (And.intro (@binD_string) (And.intro (@binD_bool) (And.intro (@binD_pointer) (And.intro (@binD_slice) (And.intro (@binD_array) (And.intro (@binD_struct) (And.intro (@binD_iface) (And.intro (@eqO_eql) (And.intro (@eqO_neq) (And.intro (@fldAO_struct) (And.intro (@fldA_some) (And.intro (@fldO_struct) (And.intro (@fldV_some) (And.intro (@partO_t) (And.intro (@partO_f) (And.intro (@idxAO_array) (And.intro (@idxAO_slice) (And.intro (@idxO_array) (And.intro (@slO_array) (And.intro (@slO_slice) (And.intro (@sl3O_slice) (And.intro (@bound_some) (And.intro (@bound_none) (And.intro (@convO_int) (And.intro (@cvE_int) (And.intro (@cvH_int) (And.intro (@cvH_slice) (And.intro (@cvH_string) (And.intro (@apE_same) (And.intro (@apE_other) (And.intro (@capO_slice) (And.intro (@cvE_string) (And.intro (@cvE_slice) (And.intro (@cvQ_int) (And.intro (@cvQ_string) (And.intro (@ifO_pointer) (And.intro (@ifO_struct) (And.intro (@ifO_int) (And.intro (@asrO_pointer) (And.intro (@asrV_nil) (And.intro (@asrV_hit) (And.intro (@valV_go) (And.intro (@pickV_t) (And.intro (@pickV_f) (And.intro (@un_not) (And.intro (@un_neg) (And.intro (@un_xor) (And.intro (@lenO_slice) (And.intro (@lenO_string) (And.intro (@lenO_array) (And.intro (@bldO_slice) (And.intro (@parts_nil) (And.intro (@parts_cons) (And.intro (@pok_nil) (And.intro (@pok_cons) (And.intro (@init_nil) (And.intro (@init_cons) (And.intro (@d_some) (And.intro (@d_none) (And.intro (@intV_lit) (And.intro (@boolV_lit) (And.intro (@ptrV_lit) (And.intro (@slcV_lit) (And.intro (@adrV_lit) (And.intro (@aggV_lit) (And.intro (@tupV_lit) (And.intro (@grdV_u) (And.intro (@grdV_bt) (And.intro (@grdV_bf) (And.intro (@cndV_b) (And.intro (@bsplit_t) (And.intro (@bsplit_f) (And.intro (@bsplit_d) (And.intro (@bsplit_n) (And.intro (@add_lit) (And.intro (@sub_lit) (And.intro (@mul_lit) (And.intro (@quo_lit) (And.intro (@rem_lit) (And.intro (@and_lit) (And.intro (@or_lit) (And.intro (@xor_lit) (And.intro (@andNot_lit) (And.intro (@shl_lit) (And.intro (@shr_lit) (And.intro (@eql_lit) (And.intro (@neq_lit) (And.intro (@lss_lit) (And.intro (@leq_lit) (And.intro (@gtr_lit) (And.intro (@geq_lit) (And.intro (@eqb_lit) (And.intro (@eqp_lit) (And.intro (@eqs_lit) (And.intro (@Option.map_some.{0,0}) (And.intro (@Option.bind_some.{0,0}) (And.intro (@List.map_cons.{0,0}) (And.intro (@List.map_nil.{0,0}) (And.intro (@List.map_toArray.{0,0}) (And.intro (@List.getElem?_cons_zero.{0}) (And.intro (@List.getElem?_cons_succ.{0}) (And.intro (@List.getElem?_toArray.{0}) (And.intro (@Option.some.injEq.{0}) (And.intro (@exists_eq_left'.{1}) (And.intro (@not_true_eq_false) (And.intro (@not_false_eq_true) (And.intro (@false_implies) (And.intro (@Classical.not_not) (And.intro (@true_and) (And.intro (@and_true) (And.intro (@true_implies) (And.intro (@ne_eq.{1}) (And.intro (@not_false_eq_true) (And.intro (@Bool.false_eq_true) (And.intro (@Bool.not_true) (And.intro (@Bool.not_false) (And.intro (@Int.cast_ofNat_Int) (And.intro (@decide_true) (And.intro (@decide_false) (And.intro (@decide_eq_true_eq) (And.intro (@Nat.mul_one) (And.intro (@Nat.one_mul) (And.intro (@Nat.zero_add) (And.intro (@Nat.add_zero) (And.intro (@List.append_nil.{0}) (And.intro (@List.nil_append.{0}) (And.intro (@List.cons_append.{0}) (And.intro (@List.size_toArray.{0}) (And.intro (@List.length_replicate.{0}) (And.intro (@Value.int.injEq) (And.intro (@Value.bool.injEq) (And.intro (@cells_agg) (And.intro (@cells_int) (And.intro (@cells_bool) (And.intro (@cells_sl) (And.intro (@cells_ptr) (And.intro (@Int.toNat_natCast) (@List.toList_toArray.{0}))))))))))))))))))))))))))))))))))))))))))))))))))))))))))))))))))))))))))))))))))))))))))))))))))))))))))))))))))))))))))))))))))))))))))))))))))))))))))
set_option maxRecDepth 100000 in
theorem VT : type_of% (And.intro (@Tryz.underlying0) (And.intro (@Tryz.underlying1) (And.intro (@Tryz.underlying2) (And.intro (@Tryz.underlying3) (And.intro (@Tryz.underlying4) (And.intro (@Tryz.underlying5) (And.intro (@Tryz.underlying6) (And.intro (@Tryz.underlying7) (And.intro (@Tryz.underlying8) (And.intro (@Tryz.underlying9) (And.intro (@Tryz.underlying10) (And.intro (@Tryz.underlying11) (And.intro (@Tryz.underlying12) (And.intro (@Tryz.underlying13) (And.intro (@Tryz.underlying14) (And.intro (@Tryz.underlying15) (And.intro (@Tryz.underlying16) (And.intro (@Tryz.underlying17) (And.intro (@Tryz.underlying18) (And.intro (@Tryz.underlying19) (And.intro (@Tryz.underlying20) (And.intro (@Tryz.underlying21) (And.intro (@Tryz.underlying22) (And.intro (@Tryz.underlying23) (And.intro (@Tryz.underlying24) (And.intro (@Tryz.underlying25) (And.intro (@Tryz.underlying26) (And.intro (@Tryz.underlying27) (And.intro (@Tryz.underlying28) (And.intro (@Tryz.underlying29) (And.intro (@Tryz.underlying30) (And.intro (@Tryz.underlying31) (And.intro (@Tryz.underlying32) (And.intro (@Tryz.underlying33) (And.intro (@Tryz.underlying34) (And.intro (@Tryz.underlying35) (And.intro (@Tryz.underlying36) (And.intro (@Tryz.underlying37) (And.intro (@Tryz.underlying38) (And.intro (@Tryz.underlying39) (And.intro (@Tryz.underlying40) (And.intro (@Tryz.underlying41) (And.intro (@Tryz.underlying42) (And.intro (@Tryz.underlying43) (And.intro (@Tryz.underlying44) (And.intro (@Tryz.underlying45) (And.intro (@Tryz.underlying46) (And.intro (@Tryz.underlying47) (And.intro (@Tryz.underlying48) (And.intro (@Tryz.underlying49) (And.intro (@Tryz.underlying50) (And.intro (@Tryz.underlying51) (And.intro (@Tryz.underlying52) (And.intro (@Tryz.underlying53) (And.intro (@Tryz.underlying54) (And.intro (@Tryz.underlying55) (And.intro (@Tryz.underlying56) (And.intro (@Tryz.underlying57) (And.intro (@Tryz.underlying58) (And.intro (@Tryz.underlying59) (And.intro (@Tryz.underlying60) (And.intro (@Tryz.underlying61) (And.intro (@Tryz.underlying62) (And.intro (@Tryz.underlying63) (And.intro (@Tryz.underlying64) (And.intro (@Tryz.underlying65) (And.intro (@Tryz.underlying66) (And.intro (@Tryz.underlying67) (And.intro (@Tryz.underlying68) (And.intro (@Tryz.underlying69) (And.intro (@Tryz.underlying70) (And.intro (@Tryz.underlying71) (And.intro (@Tryz.underlying72) (And.intro (@Tryz.underlying73) (And.intro (@Tryz.underlying74) (And.intro (@Tryz.underlying75) (And.intro (@Tryz.underlying76) (And.intro (@Tryz.underlying77) (And.intro (@Tryz.underlying78) (And.intro (@Tryz.underlying79) (And.intro (@Tryz.underlying80) (And.intro (@Tryz.underlying81) (And.intro (@Tryz.underlying82) (And.intro (@Tryz.underlying83) (And.intro (@Tryz.underlying84) (And.intro (@Tryz.underlying85) (And.intro (@Tryz.underlying86) (And.intro (@Tryz.underlying87) (And.intro (@Tryz.underlying88) (And.intro (@Tryz.underlying89) (And.intro (@Tryz.underlying90) (And.intro (@Tryz.underlying91) (And.intro (@Tryz.underlying92) (And.intro (@Tryz.underlying93) (And.intro (@Tryz.underlying94) (And.intro (@Tryz.underlying95) (And.intro (@Tryz.underlying96) (And.intro (@Tryz.underlying97) (And.intro (@Tryz.underlying98) (And.intro (@Tryz.underlying99) (And.intro (@Tryz.underlying100) (And.intro (@Tryz.underlying101) (And.intro (@Tryz.underlying102) (And.intro (@Tryz.underlying103) (And.intro (@Tryz.underlying104) (And.intro (@Tryz.underlying105) (And.intro (@Tryz.underlying106) (And.intro (@Tryz.underlying107) (And.intro (@Tryz.underlying108) (And.intro (@Tryz.underlying109) (And.intro (@Tryz.underlying110) (And.intro (@Tryz.underlying111) (And.intro (@Tryz.underlying112) (And.intro (@Tryz.underlying113) (And.intro (@Tryz.underlying114) (And.intro (@Tryz.underlying115) (And.intro (@Tryz.underlying116) (And.intro (@Tryz.underlying117) (And.intro (@Tryz.underlying118) (And.intro (@Tryz.underlying119) (And.intro (@Tryz.underlying120) (And.intro (@Tryz.underlying121) (And.intro (@Tryz.underlying122) (And.intro (@Tryz.underlying123) (And.intro (@Tryz.underlying124) (And.intro (@Tryz.underlying125) (And.intro (@Tryz.underlying126) (And.intro (@Tryz.underlying127) (And.intro (@Tryz.underlying128) (And.intro (@Tryz.underlying129) (And.intro (@Tryz.underlying130) (And.intro (@Tryz.underlying131) (And.intro (@Tryz.underlying132) (And.intro (@Tryz.underlying133) (And.intro (@Tryz.underlying134) (And.intro (@Tryz.underlying135) (And.intro (@Tryz.underlying136) (And.intro (@Tryz.underlying137) (And.intro (@Tryz.underlying138) (And.intro (@Tryz.underlying139) (And.intro (@Tryz.underlying140) (And.intro (@Tryz.underlying141) (And.intro (@Tryz.underlying142) (And.intro (@Tryz.underlying143) (And.intro (@Tryz.underlying144) (And.intro (@Tryz.underlying145) (And.intro (@Tryz.underlying146) (And.intro (@Tryz.underlying147) (And.intro (@Tryz.underlying148) (And.intro (@Tryz.underlying149) (And.intro (@Tryz.underlying150) (And.intro (@Tryz.underlying151) (And.intro (@Tryz.underlying152) (And.intro (@Tryz.underlying153) (And.intro (@Tryz.underlying154) (And.intro (@Tryz.underlying155) (And.intro (@Tryz.underlying156) (And.intro (@Tryz.underlying157) (And.intro (@Tryz.underlying158) (And.intro (@Tryz.underlying159) (And.intro (@Tryz.underlying160) (And.intro (@Tryz.underlying161) (And.intro (@Tryz.underlying162) (And.intro (@Tryz.underlying163) (And.intro (@Tryz.underlying164) (And.intro (@Tryz.underlying165) (And.intro (@Tryz.underlying166) (And.intro (@Tryz.underlying167) (And.intro (@Tryz.underlying168) (And.intro (@Tryz.underlying169) (And.intro (@Tryz.underlying170) (And.intro (@Tryz.underlying171) (And.intro (@Tryz.underlying172) (And.intro (@Tryz.underlying173) (And.intro (@Tryz.underlying174) (And.intro (@Tryz.underlying175) (And.intro (@Tryz.underlying176) (And.intro (@Tryz.underlying177) (And.intro (@Tryz.underlying178) (And.intro (@Tryz.underlying179) (And.intro (@Tryz.underlying180) (And.intro (@Tryz.underlying181) (And.intro (@Tryz.underlying182) (And.intro (@Tryz.underlying183) (And.intro (@Tryz.underlying184) (And.intro (@Tryz.underlying185) (And.intro (@Tryz.underlying186) (And.intro (@Tryz.underlying187) (And.intro (@Tryz.underlying188) (And.intro (@Tryz.underlying189) (And.intro (@Tryz.underlying190) (And.intro (@Tryz.underlying191) (And.intro (@Tryz.underlying192) (And.intro (@Tryz.underlying193) (And.intro (@Tryz.underlying194) (And.intro (@Tryz.underlying195) (And.intro (@Tryz.underlying196) (And.intro (@Tryz.underlying197) (And.intro (@Tryz.underlying198) (And.intro (@Tryz.underlying199) (And.intro (@Tryz.underlying200) (And.intro (@Tryz.underlying201) (And.intro (@Tryz.underlying202) (And.intro (@Tryz.underlying203) (And.intro (@Tryz.underlying204) (And.intro (@Tryz.underlying205) (And.intro (@Tryz.underlying206) (And.intro (@Tryz.underlying207) (And.intro (@Tryz.underlying208) (And.intro (@Tryz.underlying209) (And.intro (@Tryz.underlying210) (And.intro (@Tryz.underlying211) (And.intro (@Tryz.underlying212) (And.intro (@Tryz.underlying213) (And.intro (@Tryz.underlying214) (And.intro (@Tryz.underlying215) (And.intro (@Tryz.underlying216) (And.intro (@Tryz.underlying217) (And.intro (@Tryz.underlying218) (And.intro (@Tryz.underlying219) (And.intro (@Tryz.underlying220) (And.intro (@Tryz.underlying221) (And.intro (@Tryz.underlying222) (And.intro (@Tryz.underlying223) (And.intro (@Tryz.underlying224) (And.intro (@Tryz.underlying225) (And.intro (@Tryz.underlying226) (And.intro (@Tryz.underlying227) (And.intro (@Tryz.underlying228) (And.intro (@Tryz.underlying229) (And.intro (@Tryz.underlying230) (And.intro (@Tryz.underlying231) (And.intro (@Tryz.underlying232) (And.intro (@Tryz.underlying233) (And.intro (@Tryz.underlying234) (And.intro (@Tryz.underlying235) (And.intro (@Tryz.underlying236) (And.intro (@Tryz.underlying237) (And.intro (@Tryz.underlying238) (And.intro (@Tryz.underlying239) (And.intro (@Tryz.underlying240) (And.intro (@Tryz.underlying241) (And.intro (@Tryz.underlying242) (And.intro (@Tryz.underlying243) (And.intro (@Tryz.underlying244) (And.intro (@Tryz.underlying245) (And.intro (@Tryz.underlying246) (And.intro (@Tryz.underlying247) (And.intro (@Tryz.underlying248) (And.intro (@Tryz.underlying249) (And.intro (@Tryz.underlying250) (And.intro (@Tryz.underlying251) (And.intro (@Tryz.underlying252) (And.intro (@Tryz.underlying253) (And.intro (@Tryz.underlying254) (And.intro (@Tryz.underlying255) (And.intro (@Tryz.underlying256) (And.intro (@Tryz.underlying257) (And.intro (@Tryz.underlying258) (And.intro (@Tryz.underlying259) (And.intro (@Tryz.underlying260) (And.intro (@Tryz.underlying261) (And.intro (@Tryz.underlying262) (And.intro (@Tryz.underlying263) (And.intro (@Tryz.underlying264) (And.intro (@Tryz.underlying265) (And.intro (@Tryz.underlying266) (And.intro (@Tryz.underlying267) (And.intro (@Tryz.underlying268) (And.intro (@Tryz.underlying269) (And.intro (@Tryz.underlying270) (And.intro (@Tryz.underlying271) (And.intro (@Tryz.underlying272) (And.intro (@Tryz.underlying273) (And.intro (@Tryz.underlying274) (And.intro (@Tryz.underlying275) (And.intro (@Tryz.underlying276) (And.intro (@Tryz.underlying277) (And.intro (@Tryz.underlying278) (And.intro (@Tryz.underlying279) (And.intro (@Tryz.underlying280) (And.intro (@Tryz.underlying281) (And.intro (@Tryz.underlying282) (And.intro (@Tryz.underlying283) (And.intro (@Tryz.underlying284) (And.intro (@Tryz.underlying285) (And.intro (@Tryz.underlying286) (And.intro (@Tryz.underlying287) (And.intro (@Tryz.underlying288) (And.intro (@Tryz.underlying289) (And.intro (@Tryz.underlying290) (And.intro (@Tryz.underlying291) (And.intro (@Tryz.underlying292) (And.intro (@Tryz.underlying293) (And.intro (@Tryz.underlying294) (And.intro (@Tryz.underlying295) (And.intro (@Tryz.underlying296) (And.intro (@Tryz.underlying297) (And.intro (@Tryz.underlying298) (And.intro (@Tryz.underlying299) (And.intro (@Tryz.underlying300) (And.intro (@Tryz.underlying301) (And.intro (@Tryz.underlying302) (And.intro (@Tryz.underlying303) (And.intro (@Tryz.underlying304) (And.intro (@Tryz.underlying305) (And.intro (@Tryz.underlying306) (And.intro (@Tryz.underlying307) (And.intro (@Tryz.underlying308) (And.intro (@Tryz.underlying309) (And.intro (@Tryz.underlying310) (And.intro (@Tryz.underlying311) (And.intro (@Tryz.underlying312) (And.intro (@Tryz.underlying313) (And.intro (@Tryz.underlying314) (And.intro (@Tryz.underlying315) (And.intro (@Tryz.underlying316) (And.intro (@Tryz.underlying317) (And.intro (@Tryz.underlying318) (And.intro (@Tryz.underlying319) (And.intro (@Tryz.underlying320) (And.intro (@Tryz.underlying321) (And.intro (@Tryz.underlying322) (And.intro (@Tryz.underlying323) (And.intro (@Tryz.underlying324) (And.intro (@Tryz.underlying325) (And.intro (@Tryz.underlying326) (And.intro (@Tryz.underlying327) (And.intro (@Tryz.underlying328) (And.intro (@Tryz.underlying329) (And.intro (@Tryz.underlying330) (And.intro (@Tryz.underlying331) (And.intro (@Tryz.underlying332) (And.intro (@Tryz.underlying333) (And.intro (@Tryz.underlying334) (And.intro (@Tryz.underlying335) (And.intro (@Tryz.underlying336) (And.intro (@Tryz.underlying337) (And.intro (@Tryz.underlying338) (And.intro (@Tryz.underlying339) (And.intro (@Tryz.underlying340) (And.intro (@Tryz.underlying341) (And.intro (@Tryz.underlying342) (And.intro (@Tryz.underlying343) (And.intro (@Tryz.underlying344) (And.intro (@Tryz.underlying345) (And.intro (@Tryz.underlying346) (And.intro (@Tryz.underlying347) (And.intro (@Tryz.underlying348) (And.intro (@Tryz.underlying349) (And.intro (@Tryz.underlying350) (And.intro (@Tryz.underlying351) (And.intro (@Tryz.underlying352) (And.intro (@Tryz.underlying353) (And.intro (@Tryz.underlying354) (And.intro (@Tryz.underlying355) (And.intro (@Tryz.underlying356) (And.intro (@Tryz.underlying357) (And.intro (@Tryz.underlying358) (And.intro (@Tryz.underlying359) (And.intro (@Tryz.underlying360) (And.intro (@Tryz.underlying361) (And.intro (@Tryz.underlying362) (And.intro (@Tryz.underlying363) (And.intro (@Tryz.underlying364) (And.intro (@Tryz.underlying365) (And.intro (@Tryz.underlying366) (And.intro (@Tryz.underlying367) (And.intro (@Tryz.underlying368) (And.intro (@Tryz.underlying369) (And.intro (@Tryz.underlying370) (And.intro (@Tryz.underlying371) (And.intro (@Tryz.underlying372) (And.intro (@Tryz.underlying373) (And.intro (@Tryz.underlying374) (And.intro (@Tryz.underlying375) (And.intro (@Tryz.underlying376) (And.intro (@Tryz.underlying377) (And.intro (@Tryz.underlying378) (And.intro (@Tryz.underlying379) (And.intro (@Tryz.underlying380) (And.intro (@Tryz.underlying381) (And.intro (@Tryz.underlying382) (And.intro (@Tryz.underlying383) (And.intro (@Tryz.underlying384) (And.intro (@Tryz.underlying385) (And.intro (@Tryz.underlying386) (And.intro (@Tryz.underlying387) (And.intro (@Tryz.underlying388) (And.intro (@Tryz.underlying389) (And.intro (@Tryz.underlying390) (And.intro (@Tryz.underlying391) (And.intro (@Tryz.underlying392) (And.intro (@Tryz.underlying393) (And.intro (@Tryz.underlying394) (And.intro (@Tryz.underlying395) (And.intro (@Tryz.underlying396) (And.intro (@Tryz.underlying397) (And.intro (@Tryz.underlying398) (And.intro (@Tryz.underlying399) (And.intro (@Tryz.underlying400) (And.intro (@Tryz.underlying401) (And.intro (@Tryz.underlying402) (And.intro (@Tryz.underlying403) (And.intro (@Tryz.underlying404) (And.intro (@Tryz.underlying405) (And.intro (@Tryz.underlying406) (And.intro (@Tryz.underlying407) (And.intro (@Tryz.underlying408) (And.intro (@Tryz.underlying409) (And.intro (@Tryz.underlying410) (And.intro (@Tryz.underlying411) (And.intro (@Tryz.underlying412) (And.intro (@Tryz.underlying413) (And.intro (@Tryz.underlying414) (And.intro (@Tryz.underlying415) (And.intro (@Tryz.underlying416) (And.intro (@Tryz.underlying417) (And.intro (@Tryz.underlying418) (And.intro (@Tryz.underlying419) (And.intro (@Tryz.underlying420) (And.intro (@Tryz.underlying421) (And.intro (@Tryz.underlying422) (And.intro (@Tryz.underlying423) (And.intro (@Tryz.underlying424) (And.intro (@Tryz.underlying425) (And.intro (@Tryz.underlying426) (And.intro (@Tryz.underlying427) (And.intro (@Tryz.underlying428) (And.intro (@Tryz.underlying429) (And.intro (@Tryz.underlying430) (And.intro (@Tryz.underlying431) (And.intro (@Tryz.underlying432) (And.intro (@Tryz.underlying433) (And.intro (@Tryz.underlying434) (And.intro (@Tryz.underlying435) (And.intro (@Tryz.underlying436) (And.intro (@Tryz.underlying437) (And.intro (@Tryz.underlying438) (And.intro (@Tryz.underlying439) (And.intro (@Tryz.underlying440) (And.intro (@Tryz.underlying441) (And.intro (@Tryz.underlying442) (And.intro (@Tryz.underlying443) (And.intro (@Tryz.underlying444) (And.intro (@Tryz.underlying445) (And.intro (@Tryz.underlying446) (And.intro (@Tryz.underlying447) (And.intro (@Tryz.underlying448) (And.intro (@Tryz.underlying449) (And.intro (@Tryz.underlying450) (And.intro (@Tryz.underlying451) (And.intro (@Tryz.underlying452) (And.intro (@Tryz.underlying453) (And.intro (@Tryz.underlying454) (And.intro (@Tryz.underlying455) (And.intro (@Tryz.underlying456) (And.intro (@Tryz.underlying457) (And.intro (@Tryz.underlying458) (And.intro (@Tryz.underlying459) (And.intro (@Tryz.underlying460) (And.intro (@Tryz.underlying461) (And.intro (@Tryz.underlying462) (And.intro (@Tryz.underlying463) (And.intro (@Tryz.underlying464) (And.intro (@Tryz.underlying465) (And.intro (@Tryz.underlying466) (And.intro (@Tryz.underlying467) (And.intro (@Tryz.underlying468) (And.intro (@Tryz.underlying469) (And.intro (@Tryz.underlying470) (And.intro (@Tryz.underlying471) (And.intro (@Tryz.underlying472) (And.intro (@Tryz.underlying473) (And.intro (@Tryz.underlying474) (And.intro (@Tryz.underlying475) (And.intro (@Tryz.underlying476) (And.intro (@Tryz.underlying477) (And.intro (@Tryz.underlying478) (And.intro (@c0) (And.intro (@c1) (And.intro (@c2) (And.intro (@c3) (And.intro (@c4) (And.intro (@c5) (And.intro (@c6) (And.intro (@c7) (And.intro (@c8) (And.intro (@c9) (And.intro (@c10) (And.intro (@c11) (And.intro (@c12) (And.intro (@c13) (And.intro (@c14) (And.intro (@c15) (And.intro (@c16) (And.intro (@c17) (And.intro (@c18) (And.intro (@c19) (And.intro (@c20) (And.intro (@c21) (And.intro (@c22) (And.intro (@c23) (And.intro (@c24) (And.intro (@c25) (And.intro (@c26) (And.intro (@c27) (And.intro (@c28) (And.intro (@c29) (And.intro (@c30) (And.intro (@c31) (And.intro (@c32) (And.intro (@c33) (And.intro (@c34) (And.intro (@c35) (And.intro (@c36) (And.intro (@c37) (And.intro (@c38) (And.intro (@c39) (And.intro (@c40) (And.intro (@c41) (And.intro (@c42) (And.intro (@c43) (And.intro (@c44) (And.intro (@c45) (And.intro (@c46) (And.intro (@c47) (And.intro (@c48) (And.intro (@c49) (And.intro (@c50) (And.intro (@c51) (And.intro (@c52) (And.intro (@c53) (And.intro (@c54) (And.intro (@c55) (And.intro (@c56) (And.intro (@c57) (And.intro (@c58) (And.intro (@c59) (And.intro (@c60) (And.intro (@c61) (And.intro (@c62) (And.intro (@c63) (And.intro (@c64) (And.intro (@c65) (And.intro (@c66) (And.intro (@c67) (And.intro (@c68) (And.intro (@c69) (And.intro (@c70) (And.intro (@c71) (And.intro (@c72) (And.intro (@c73) (And.intro (@c74) (And.intro (@c75) (And.intro (@c76) (And.intro (@c77) (And.intro (@c78) (And.intro (@c79) (And.intro (@c80) (And.intro (@c81) (And.intro (@c82) (And.intro (@c83) (And.intro (@c84) (And.intro (@c85) (And.intro (@c86) (And.intro (@c87) (And.intro (@c88) (And.intro (@c89) (And.intro (@c90) (And.intro (@c91) (And.intro (@c92) (And.intro (@c93) (And.intro (@c94) (And.intro (@c95) (And.intro (@c96) (And.intro (@c97) (And.intro (@c98) (And.intro (@c99) (And.intro (@c100) (And.intro (@c101) (And.intro (@c102) (And.intro (@c103) (And.intro (@c104) (And.intro (@c105) (And.intro (@c106) (And.intro (@c107) (And.intro (@c108) (And.intro (@c109) (And.intro (@c110) (And.intro (@c111) (And.intro (@c112) (And.intro (@c113) (And.intro (@c114) (And.intro (@c115) (And.intro (@c116) (And.intro (@c117) (And.intro (@c118) (And.intro (@c119) (And.intro (@c120) (And.intro (@c121) (And.intro (@c122) (And.intro (@c123) (And.intro (@c124) (And.intro (@c125) (And.intro (@c126) (And.intro (@c127) (And.intro (@c128) (And.intro (@c129) (And.intro (@c130) (And.intro (@c131) (And.intro (@c132) (And.intro (@c133) (And.intro (@c134) (And.intro (@c135) (And.intro (@c136) (And.intro (@c137) (And.intro (@c138) (And.intro (@c139) (And.intro (@c140) (And.intro (@c141) (And.intro (@c142) (And.intro (@c143) (And.intro (@c144) (And.intro (@c145) (And.intro (@c146) (And.intro (@c147) (And.intro (@c148) (And.intro (@c149) (And.intro (@c150) (And.intro (@c151) (And.intro (@c152) (And.intro (@c153) (And.intro (@c154) (And.intro (@c155) (And.intro (@c156) (And.intro (@c157) (And.intro (@c158) (And.intro (@c159) (And.intro (@c160) (And.intro (@c161) (And.intro (@c162) (And.intro (@c163) (And.intro (@c164) (And.intro (@c165) (And.intro (@c166) (And.intro (@c167) (And.intro (@c168) (And.intro (@c169) (And.intro (@c170) (And.intro (@c171) (And.intro (@c172) (And.intro (@c173) (And.intro (@c174) (And.intro (@c175) (And.intro (@c176) (And.intro (@c177) (And.intro (@c178) (And.intro (@c179) (And.intro (@c180) (And.intro (@c181) (And.intro (@c182) (And.intro (@c183) (And.intro (@c184) (And.intro (@c185) (And.intro (@c186) (And.intro (@c187) (And.intro (@c188) (And.intro (@c189) (And.intro (@c190) (And.intro (@c191) (And.intro (@c192) (And.intro (@c193) (And.intro (@c194) (And.intro (@c195) (And.intro (@c196) (And.intro (@c197) (And.intro (@c198) (And.intro (@c199) (And.intro (@c200) (And.intro (@c201) (And.intro (@c202) (And.intro (@c203) (And.intro (@c204) (And.intro (@c205) (And.intro (@c206) (And.intro (@c207) (And.intro (@c208) (And.intro (@c209) (And.intro (@c210) (And.intro (@c211) (And.intro (@c212) (And.intro (@c213) (And.intro (@c214) (And.intro (@c215) (And.intro (@c216) (And.intro (@c217) (And.intro (@c218) (And.intro (@c219) (And.intro (@c220) (And.intro (@c221) (And.intro (@c222) (And.intro (@c223) (And.intro (@c224) (And.intro (@c225) (And.intro (@c226) (And.intro (@c227) (And.intro (@c228) (And.intro (@c229) (And.intro (@c230) (And.intro (@c231) (And.intro (@c232) (And.intro (@c233) (And.intro (@c234) (And.intro (@c235) (And.intro (@c236) (And.intro (@c237) (And.intro (@c238) (And.intro (@c239) (And.intro (@c240) (And.intro (@c241) (And.intro (@c242) (And.intro (@c243) (And.intro (@c244) (And.intro (@c245) (And.intro (@c246) (And.intro (@c247) (And.intro (@c248) (And.intro (@c249) (And.intro (@c250) (And.intro (@c251) (And.intro (@c252) (And.intro (@c253) (And.intro (@c254) (And.intro (@c255) (And.intro (@c256) (And.intro (@c257) (And.intro (@c258) (And.intro (@c259) (And.intro (@c260) (And.intro (@c261) (And.intro (@c262) (And.intro (@c263) (And.intro (@c264) (And.intro (@c265) (And.intro (@c266) (And.intro (@c267) (And.intro (@c268) (And.intro (@c269) (And.intro (@c270) (And.intro (@c271) (And.intro (@c272) (And.intro (@c273) (And.intro (@c274) (And.intro (@c275) (And.intro (@c276) (And.intro (@c277) (And.intro (@c278) (And.intro (@c279) (And.intro (@c280) (And.intro (@c281) (And.intro (@c282) (And.intro (@c283) (And.intro (@c284) (And.intro (@c285) (And.intro (@c286) (And.intro (@c287) (And.intro (@c288) (And.intro (@c289) (And.intro (@c290) (And.intro (@c291) (And.intro (@c292) (And.intro (@c293) (And.intro (@c294) (And.intro (@c295) (And.intro (@c296) (And.intro (@c297) (And.intro (@c298) (And.intro (@c299) (And.intro (@c300) (And.intro (@c301) (And.intro (@c302) (And.intro (@c303) (And.intro (@c304) (And.intro (@c305) (And.intro (@c306) (And.intro (@c307) (And.intro (@c308) (And.intro (@c309) (And.intro (@c310) (And.intro (@c311) (And.intro (@c312) (And.intro (@c313) (And.intro (@c314) (And.intro (@c315) (And.intro (@c316) (And.intro (@c317) (And.intro (@c318) (And.intro (@c319) (And.intro (@c320) (And.intro (@c321) (And.intro (@c322) (And.intro (@c323) (And.intro (@c324) (And.intro (@c325) (And.intro (@c326) (And.intro (@c327) (And.intro (@c328) (And.intro (@c329) (And.intro (@c330) (And.intro (@c331) (And.intro (@c332) (And.intro (@c333) (And.intro (@c334) (And.intro (@c335) (And.intro (@c336) (And.intro (@c337) (And.intro (@c338) (And.intro (@c339) (And.intro (@c340) (And.intro (@c341) (And.intro (@c342) (And.intro (@c343) (And.intro (@c344) (And.intro (@c345) (And.intro (@c346) (And.intro (@c347) (And.intro (@c348) (And.intro (@c349) (And.intro (@c350) (And.intro (@c351) (And.intro (@c352) (And.intro (@c353) (And.intro (@c354) (And.intro (@c355) (And.intro (@c356) (And.intro (@c357) (And.intro (@c358) (And.intro (@c359) (And.intro (@c360) (And.intro (@c361) (And.intro (@c362) (And.intro (@c363) (And.intro (@c364) (And.intro (@c365) (And.intro (@c366) (And.intro (@c367) (And.intro (@c368) (And.intro (@c369) (And.intro (@c370) (And.intro (@c371) (And.intro (@c372) (And.intro (@c373) (And.intro (@c374) (And.intro (@c375) (And.intro (@c376) (And.intro (@c377) (And.intro (@c378) (And.intro (@c379) (And.intro (@c380) (And.intro (@c381) (And.intro (@c382) (And.intro (@c383) (And.intro (@c384) (And.intro (@c385) (And.intro (@c386) (And.intro (@c387) (And.intro (@c388) (And.intro (@c389) (And.intro (@c390) (And.intro (@c391) (And.intro (@c392) (And.intro (@c393) (And.intro (@c394) (And.intro (@c395) (And.intro (@c396) (And.intro (@c397) (And.intro (@c398) (And.intro (@c399) (And.intro (@c400) (And.intro (@c401) (And.intro (@c402) (And.intro (@c403) (And.intro (@c404) (And.intro (@c405) (And.intro (@c406) (And.intro (@c407) (And.intro (@c408) (And.intro (@c409) (And.intro (@c410) (And.intro (@c411) (And.intro (@c412) (And.intro (@c413) (And.intro (@c414) (And.intro (@c415) (And.intro (@c416) (And.intro (@c417) (And.intro (@c418) (And.intro (@c419) (And.intro (@c420) (And.intro (@c421) (And.intro (@c422) (And.intro (@c423) (And.intro (@c424) (And.intro (@c425) (And.intro (@c426) (And.intro (@c427) (And.intro (@c428) (And.intro (@c429) (And.intro (@c430) (And.intro (@c431) (And.intro (@c432) (And.intro (@c433) (And.intro (@c434) (And.intro (@c435) (And.intro (@c436) (And.intro (@c437) (And.intro (@c438) (And.intro (@c439) (And.intro (@c440) (And.intro (@c441) (And.intro (@c442) (And.intro (@c443) (And.intro (@c444) (And.intro (@c445) (And.intro (@c446) (And.intro (@c447) (And.intro (@c448) (And.intro (@c449) (And.intro (@c450) (And.intro (@c451) (And.intro (@c452) (And.intro (@c453) (And.intro (@c454) (And.intro (@c455) (And.intro (@c456) (And.intro (@c457) (And.intro (@c458) (And.intro (@c459) (And.intro (@c460) (And.intro (@c461) (And.intro (@c462) (And.intro (@c463) (And.intro (@c464) (And.intro (@c465) (And.intro (@c466) (And.intro (@c467) (And.intro (@c468) (And.intro (@c469) (And.intro (@c470) (And.intro (@c471) (And.intro (@c472) (And.intro (@c473) (And.intro (@c474) (And.intro (@c475) (And.intro (@c476) (And.intro (@c477) (And.intro (@c478) (And.intro (@z1) (And.intro (@z2) (And.intro (@z3) (And.intro (@z4) (And.intro (@z5) (And.intro (@z6) (And.intro (@z7) (And.intro (@z8) (And.intro (@z9) (And.intro (@z10) (And.intro (@z11) (And.intro (@z12) (And.intro (@z13) (And.intro (@z14) (And.intro (@z15) (And.intro (@z16) (And.intro (@z17) (And.intro (@z18) (And.intro (@z19) (And.intro (@z20) (And.intro (@z21) (And.intro (@z22) (And.intro (@z23) (And.intro (@z24) (And.intro (@z25) (And.intro (@z26) (And.intro (@z27) (And.intro (@z28) (And.intro (@z29) (And.intro (@z30) (And.intro (@z31) (And.intro (@z33) (And.intro (@z35) (And.intro (@z36) (And.intro (@z38) (And.intro (@z39) (And.intro (@z41) (And.intro (@z43) (And.intro (@z44) (And.intro (@z45) (And.intro (@z46) (And.intro (@z47) (And.intro (@z48) (And.intro (@z49) (And.intro (@z50) (And.intro (@z51) (And.intro (@z52) (And.intro (@z53) (And.intro (@z54) (And.intro (@z55) (And.intro (@z56) (And.intro (@z58) (And.intro (@z59) (And.intro (@z61) (And.intro (@z63) (And.intro (@z64) (And.intro (@z65) (And.intro (@z66) (And.intro (@z67) (And.intro (@z68) (And.intro (@z69) (And.intro (@z71) (And.intro (@z72) (And.intro (@z73) (And.intro (@z74) (And.intro (@z75) (And.intro (@z76) (And.intro (@z78) (And.intro (@z79) (And.intro (@z80) (And.intro (@z81) (And.intro (@z83) (And.intro (@z84) (And.intro (@z85) (And.intro (@z86) (And.intro (@z88) (And.intro (@z89) (And.intro (@z90) (And.intro (@z91) (And.intro (@z92) (And.intro (@z93) (And.intro (@z94) (And.intro (@z95) (And.intro (@z96) (And.intro (@z97) (And.intro (@z98) (And.intro (@z99) (And.intro (@z100) (And.intro (@z101) (And.intro (@z103) (And.intro (@z104) (And.intro (@z105) (And.intro (@z106) (And.intro (@z108) (And.intro (@z109) (And.intro (@z110) (And.intro (@z112) (And.intro (@z114) (And.intro (@z116) (And.intro (@z117) (And.intro (@z119) (And.intro (@z120) (And.intro (@z121) (And.intro (@z122) (And.intro (@z123) (And.intro (@z124) (And.intro (@z125) (And.intro (@z127) (And.intro (@z129) (And.intro (@z130) (And.intro (@z131) (And.intro (@z132) (And.intro (@z133) (And.intro (@z134) (And.intro (@z135) (And.intro (@z136) (And.intro (@z137) (And.intro (@z138) (And.intro (@z139) (And.intro (@z140) (And.intro (@z141) (And.intro (@z142) (And.intro (@z144) (And.intro (@z145) (And.intro (@z147) (And.intro (@z149) (And.intro (@z151) (And.intro (@z152) (And.intro (@z153) (And.intro (@z154) (And.intro (@z155) (And.intro (@z156) (And.intro (@z158) (And.intro (@z159) (And.intro (@z160) (And.intro (@z161) (And.intro (@z163) (And.intro (@z164) (And.intro (@z165) (And.intro (@z166) (And.intro (@z167) (And.intro (@z169) (And.intro (@z170) (And.intro (@z171) (And.intro (@z173) (And.intro (@z175) (And.intro (@z176) (And.intro (@z177) (And.intro (@z178) (And.intro (@z179) (And.intro (@z180) (And.intro (@z181) (And.intro (@z182) (And.intro (@z183) (And.intro (@z184) (And.intro (@z185) (And.intro (@z186) (And.intro (@z187) (And.intro (@z188) (And.intro (@z189) (And.intro (@z190) (And.intro (@z191) (And.intro (@z192) (And.intro (@z193) (And.intro (@z195) (And.intro (@z196) (And.intro (@z197) (And.intro (@z198) (And.intro (@z199) (And.intro (@z201) (And.intro (@z202) (And.intro (@z203) (And.intro (@z204) (And.intro (@z205) (And.intro (@z206) (And.intro (@z207) (And.intro (@z208) (And.intro (@z209) (And.intro (@z210) (And.intro (@z211) (And.intro (@z212) (And.intro (@z213) (And.intro (@z214) (And.intro (@z215) (And.intro (@z216) (And.intro (@z218) (And.intro (@z219) (And.intro (@z220) (And.intro (@z221) (And.intro (@z222) (And.intro (@z223) (And.intro (@z224) (And.intro (@z225) (And.intro (@z226) (And.intro (@z228) (And.intro (@z229) (And.intro (@z230) (And.intro (@z231) (And.intro (@z232) (And.intro (@z233) (And.intro (@z234) (And.intro (@z235) (And.intro (@z236) (And.intro (@z237) (And.intro (@z238) (And.intro (@z239) (And.intro (@z240) (And.intro (@z241) (And.intro (@z242) (And.intro (@z243) (And.intro (@z244) (And.intro (@z245) (And.intro (@z246) (And.intro (@z247) (And.intro (@z248) (And.intro (@z249) (And.intro (@z250) (And.intro (@z251) (And.intro (@z252) (And.intro (@z253) (And.intro (@z255) (And.intro (@z256) (And.intro (@z257) (And.intro (@z258) (And.intro (@z259) (And.intro (@z260) (And.intro (@z261) (And.intro (@z262) (And.intro (@z263) (And.intro (@z264) (And.intro (@z265) (And.intro (@z266) (And.intro (@z267) (And.intro (@z268) (And.intro (@z269) (And.intro (@z270) (And.intro (@z271) (And.intro (@z272) (And.intro (@z273) (And.intro (@z274) (And.intro (@z275) (And.intro (@z276) (And.intro (@z277) (And.intro (@z278) (And.intro (@z279) (And.intro (@z280) (And.intro (@z281) (And.intro (@z282) (And.intro (@z283) (And.intro (@z284) (And.intro (@z285) (And.intro (@z286) (And.intro (@z287) (And.intro (@z289) (And.intro (@z290) (And.intro (@z291) (And.intro (@z292) (And.intro (@z293) (And.intro (@z294) (And.intro (@z295) (And.intro (@z296) (And.intro (@z297) (And.intro (@z298) (And.intro (@z299) (And.intro (@z300) (And.intro (@z301) (And.intro (@z302) (And.intro (@z303) (And.intro (@z304) (And.intro (@z305) (And.intro (@z306) (And.intro (@z307) (And.intro (@z308) (And.intro (@z309) (And.intro (@z310) (And.intro (@z311) (And.intro (@z312) (And.intro (@z313) (And.intro (@z314) (And.intro (@z315) (And.intro (@z316) (And.intro (@z317) (And.intro (@z318) (And.intro (@z319) (And.intro (@z320) (And.intro (@z321) (And.intro (@z322) (And.intro (@z323) (And.intro (@z324) (And.intro (@z325) (And.intro (@z326) (And.intro (@z327) (And.intro (@z328) (And.intro (@z329) (And.intro (@z330) (And.intro (@z331) (And.intro (@z332) (And.intro (@z333) (And.intro (@z334) (And.intro (@z335) (And.intro (@z336) (And.intro (@z337) (And.intro (@z338) (And.intro (@z339) (And.intro (@z340) (And.intro (@z341) (And.intro (@z342) (And.intro (@z343) (And.intro (@z345) (And.intro (@z346) (And.intro (@z347) (And.intro (@z348) (And.intro (@z349) (And.intro (@z351) (And.intro (@z352) (And.intro (@z353) (And.intro (@z354) (And.intro (@z355) (And.intro (@z356) (And.intro (@z357) (And.intro (@z358) (And.intro (@z359) (And.intro (@z360) (And.intro (@z361) (And.intro (@z362) (And.intro (@z363) (And.intro (@z364) (And.intro (@z365) (And.intro (@z366) (And.intro (@z367) (And.intro (@z369) (And.intro (@z371) (And.intro (@z372) (And.intro (@z374) (And.intro (@z376) (And.intro (@z378) (And.intro (@z380) (And.intro (@z381) (And.intro (@z383) (And.intro (@z384) (And.intro (@z385) (And.intro (@z386) (And.intro (@z387) (And.intro (@z388) (And.intro (@z389) (And.intro (@z390) (And.intro (@z391) (And.intro (@z392) (And.intro (@z393) (And.intro (@z394) (And.intro (@z395) (And.intro (@z396) (And.intro (@z397) (And.intro (@z398) (And.intro (@z399) (And.intro (@z400) (And.intro (@z401) (And.intro (@z402) (And.intro (@z403) (And.intro (@z404) (And.intro (@z405) (And.intro (@z406) (And.intro (@z407) (And.intro (@z408) (And.intro (@z409) (And.intro (@z410) (And.intro (@z411) (And.intro (@z412) (And.intro (@z413) (And.intro (@z414) (And.intro (@z415) (And.intro (@z416) (And.intro (@z417) (And.intro (@z418) (And.intro (@z420) (And.intro (@z421) (And.intro (@z423) (And.intro (@z425) (And.intro (@z426) (And.intro (@z428) (And.intro (@z429) (And.intro (@z430) (And.intro (@z431) (And.intro (@z432) (And.intro (@z433) (And.intro (@z434) (And.intro (@z435) (And.intro (@z437) (And.intro (@z438) (And.intro (@z439) (And.intro (@z440) (And.intro (@z441) (And.intro (@z442) (And.intro (@z443) (And.intro (@z444) (And.intro (@z446) (And.intro (@z448) (And.intro (@z449) (And.intro (@z450) (And.intro (@z452) (And.intro (@z453) (And.intro (@z455) (And.intro (@z456) (And.intro (@z457) (And.intro (@z458) (And.intro (@z459) (And.intro (@z460) (And.intro (@z462) (And.intro (@z463) (And.intro (@z464) (And.intro (@z465) (And.intro (@z466) (And.intro (@z467) (And.intro (@z468) (And.intro (@z469) (And.intro (@z470) (And.intro (@z471) (And.intro (@z472) (And.intro (@z473) (And.intro (@z474) (And.intro (@z475) (And.intro (@z476) (And.intro (@z477) (@z478)))))))))))))))))))))))))))))))))))))))))))))))))))))))))))))))))))))))))))))))))))))))))))))))))))))))))))))))))))))))))))))))))))))))))))))))))))))))))))))))))))))))))))))))))))))))))))))))))))))))))))))))))))))))))))))))))))))))))))))))))))))))))))))))))))))))))))))))))))))))))))))))))))))))))))))))))))))))))))))))))))))))))))))))))))))))))))))))))))))))))))))))))))))))))))))))))))))))))))))))))))))))))))))))))))))))))))))))))))))))))))))))))))))))))))))))))))))))))))))))))))))))))))))))))))))))))))))))))))))))))))))))))))))))))))))))))))))))))))))))))))))))))))))))))))))))))))))))))))))))))))))))))))))))))))))))))))))))))))))))))))))))))))))))))))))))))))))))))))))))))))))))))))))))))))))))))))))))))))))))))))))))))))))))))))))))))))))))))))))))))))))))))))))))))))))))))))))))))))))))))))))))))))))))))))))))))))))))))))))))))))))))))))))))))))))))))))))))))))))))))))))))))))))))))))))))))))))))))))))))))))))))))))))))))))))))))))))))))))))))))))))))))))))))))))))))))))))))))))))))))))))))))))))))))))))))))))))))))))))))))))))))))))))))))))))))))))))))))))))))))))))))))))))))))))))))))))))))))))))))))))))))))))))))))))))))))))))))))))))))))))))))))))))))))))))))))))))))))))))))))))))))))))))))))))))))))))))))))))))))))))))))))))))))))))))))))))))))))))))))))))))))))))))))))))))))))))))))))))))))))))))))))))))))))))))))))))))))))))))))))))))))))))))))))))))) := And.intro (@Tryz.underlying0) (And.intro (@Tryz.underlying1) (And.intro (@Tryz.underlying2) (And.intro (@Tryz.underlying3) (And.intro (@Tryz.underlying4) (And.intro (@Tryz.underlying5) (And.intro (@Tryz.underlying6) (And.intro (@Tryz.underlying7) (And.intro (@Tryz.underlying8) (And.intro (@Tryz.underlying9) (And.intro (@Tryz.underlying10) (And.intro (@Tryz.underlying11) (And.intro (@Tryz.underlying12) (And.intro (@Tryz.underlying13) (And.intro (@Tryz.underlying14) (And.intro (@Tryz.underlying15) (And.intro (@Tryz.underlying16) (And.intro (@Tryz.underlying17) (And.intro (@Tryz.underlying18) (And.intro (@Tryz.underlying19) (And.intro (@Tryz.underlying20) (And.intro (@Tryz.underlying21) (And.intro (@Tryz.underlying22) (And.intro (@Tryz.underlying23) (And.intro (@Tryz.underlying24) (And.intro (@Tryz.underlying25) (And.intro (@Tryz.underlying26) (And.intro (@Tryz.underlying27) (And.intro (@Tryz.underlying28) (And.intro (@Tryz.underlying29) (And.intro (@Tryz.underlying30) (And.intro (@Tryz.underlying31) (And.intro (@Tryz.underlying32) (And.intro (@Tryz.underlying33) (And.intro (@Tryz.underlying34) (And.intro (@Tryz.underlying35) (And.intro (@Tryz.underlying36) (And.intro (@Tryz.underlying37) (And.intro (@Tryz.underlying38) (And.intro (@Tryz.underlying39) (And.intro (@Tryz.underlying40) (And.intro (@Tryz.underlying41) (And.intro (@Tryz.underlying42) (And.intro (@Tryz.underlying43) (And.intro (@Tryz.underlying44) (And.intro (@Tryz.underlying45) (And.intro (@Tryz.underlying46) (And.intro (@Tryz.underlying47) (And.intro (@Tryz.underlying48) (And.intro (@Tryz.underlying49) (And.intro (@Tryz.underlying50) (And.intro (@Tryz.underlying51) (And.intro (@Tryz.underlying52) (And.intro (@Tryz.underlying53) (And.intro (@Tryz.underlying54) (And.intro (@Tryz.underlying55) (And.intro (@Tryz.underlying56) (And.intro (@Tryz.underlying57) (And.intro (@Tryz.underlying58) (And.intro (@Tryz.underlying59) (And.intro (@Tryz.underlying60) (And.intro (@Tryz.underlying61) (And.intro (@Tryz.underlying62) (And.intro (@Tryz.underlying63) (And.intro (@Tryz.underlying64) (And.intro (@Tryz.underlying65) (And.intro (@Tryz.underlying66) (And.intro (@Tryz.underlying67) (And.intro (@Tryz.underlying68) (And.intro (@Tryz.underlying69) (And.intro (@Tryz.underlying70) (And.intro (@Tryz.underlying71) (And.intro (@Tryz.underlying72) (And.intro (@Tryz.underlying73) (And.intro (@Tryz.underlying74) (And.intro (@Tryz.underlying75) (And.intro (@Tryz.underlying76) (And.intro (@Tryz.underlying77) (And.intro (@Tryz.underlying78) (And.intro (@Tryz.underlying79) (And.intro (@Tryz.underlying80) (And.intro (@Tryz.underlying81) (And.intro (@Tryz.underlying82) (And.intro (@Tryz.underlying83) (And.intro (@Tryz.underlying84) (And.intro (@Tryz.underlying85) (And.intro (@Tryz.underlying86) (And.intro (@Tryz.underlying87) (And.intro (@Tryz.underlying88) (And.intro (@Tryz.underlying89) (And.intro (@Tryz.underlying90) (And.intro (@Tryz.underlying91) (And.intro (@Tryz.underlying92) (And.intro (@Tryz.underlying93) (And.intro (@Tryz.underlying94) (And.intro (@Tryz.underlying95) (And.intro (@Tryz.underlying96) (And.intro (@Tryz.underlying97) (And.intro (@Tryz.underlying98) (And.intro (@Tryz.underlying99) (And.intro (@Tryz.underlying100) (And.intro (@Tryz.underlying101) (And.intro (@Tryz.underlying102) (And.intro (@Tryz.underlying103) (And.intro (@Tryz.underlying104) (And.intro (@Tryz.underlying105) (And.intro (@Tryz.underlying106) (And.intro (@Tryz.underlying107) (And.intro (@Tryz.underlying108) (And.intro (@Tryz.underlying109) (And.intro (@Tryz.underlying110) (And.intro (@Tryz.underlying111) (And.intro (@Tryz.underlying112) (And.intro (@Tryz.underlying113) (And.intro (@Tryz.underlying114) (And.intro (@Tryz.underlying115) (And.intro (@Tryz.underlying116) (And.intro (@Tryz.underlying117) (And.intro (@Tryz.underlying118) (And.intro (@Tryz.underlying119) (And.intro (@Tryz.underlying120) (And.intro (@Tryz.underlying121) (And.intro (@Tryz.underlying122) (And.intro (@Tryz.underlying123) (And.intro (@Tryz.underlying124) (And.intro (@Tryz.underlying125) (And.intro (@Tryz.underlying126) (And.intro (@Tryz.underlying127) (And.intro (@Tryz.underlying128) (And.intro (@Tryz.underlying129) (And.intro (@Tryz.underlying130) (And.intro (@Tryz.underlying131) (And.intro (@Tryz.underlying132) (And.intro (@Tryz.underlying133) (And.intro (@Tryz.underlying134) (And.intro (@Tryz.underlying135) (And.intro (@Tryz.underlying136) (And.intro (@Tryz.underlying137) (And.intro (@Tryz.underlying138) (And.intro (@Tryz.underlying139) (And.intro (@Tryz.underlying140) (And.intro (@Tryz.underlying141) (And.intro (@Tryz.underlying142) (And.intro (@Tryz.underlying143) (And.intro (@Tryz.underlying144) (And.intro (@Tryz.underlying145) (And.intro (@Tryz.underlying146) (And.intro (@Tryz.underlying147) (And.intro (@Tryz.underlying148) (And.intro (@Tryz.underlying149) (And.intro (@Tryz.underlying150) (And.intro (@Tryz.underlying151) (And.intro (@Tryz.underlying152) (And.intro (@Tryz.underlying153) (And.intro (@Tryz.underlying154) (And.intro (@Tryz.underlying155) (And.intro (@Tryz.underlying156) (And.intro (@Tryz.underlying157) (And.intro (@Tryz.underlying158) (And.intro (@Tryz.underlying159) (And.intro (@Tryz.underlying160) (And.intro (@Tryz.underlying161) (And.intro (@Tryz.underlying162) (And.intro (@Tryz.underlying163) (And.intro (@Tryz.underlying164) (And.intro (@Tryz.underlying165) (And.intro (@Tryz.underlying166) (And.intro (@Tryz.underlying167) (And.intro (@Tryz.underlying168) (And.intro (@Tryz.underlying169) (And.intro (@Tryz.underlying170) (And.intro (@Tryz.underlying171) (And.intro (@Tryz.underlying172) (And.intro (@Tryz.underlying173) (And.intro (@Tryz.underlying174) (And.intro (@Tryz.underlying175) (And.intro (@Tryz.underlying176) (And.intro (@Tryz.underlying177) (And.intro (@Tryz.underlying178) (And.intro (@Tryz.underlying179) (And.intro (@Tryz.underlying180) (And.intro (@Tryz.underlying181) (And.intro (@Tryz.underlying182) (And.intro (@Tryz.underlying183) (And.intro (@Tryz.underlying184) (And.intro (@Tryz.underlying185) (And.intro (@Tryz.underlying186) (And.intro (@Tryz.underlying187) (And.intro (@Tryz.underlying188) (And.intro (@Tryz.underlying189) (And.intro (@Tryz.underlying190) (And.intro (@Tryz.underlying191) (And.intro (@Tryz.underlying192) (And.intro (@Tryz.underlying193) (And.intro (@Tryz.underlying194) (And.intro (@Tryz.underlying195) (And.intro (@Tryz.underlying196) (And.intro (@Tryz.underlying197) (And.intro (@Tryz.underlying198) (And.intro (@Tryz.underlying199) (And.intro (@Tryz.underlying200) (And.intro (@Tryz.underlying201) (And.intro (@Tryz.underlying202) (And.intro (@Tryz.underlying203) (And.intro (@Tryz.underlying204) (And.intro (@Tryz.underlying205) (And.intro (@Tryz.underlying206) (And.intro (@Tryz.underlying207) (And.intro (@Tryz.underlying208) (And.intro (@Tryz.underlying209) (And.intro (@Tryz.underlying210) (And.intro (@Tryz.underlying211) (And.intro (@Tryz.underlying212) (And.intro (@Tryz.underlying213) (And.intro (@Tryz.underlying214) (And.intro (@Tryz.underlying215) (And.intro (@Tryz.underlying216) (And.intro (@Tryz.underlying217) (And.intro (@Tryz.underlying218) (And.intro (@Tryz.underlying219) (And.intro (@Tryz.underlying220) (And.intro (@Tryz.underlying221) (And.intro (@Tryz.underlying222) (And.intro (@Tryz.underlying223) (And.intro (@Tryz.underlying224) (And.intro (@Tryz.underlying225) (And.intro (@Tryz.underlying226) (And.intro (@Tryz.underlying227) (And.intro (@Tryz.underlying228) (And.intro (@Tryz.underlying229) (And.intro (@Tryz.underlying230) (And.intro (@Tryz.underlying231) (And.intro (@Tryz.underlying232) (And.intro (@Tryz.underlying233) (And.intro (@Tryz.underlying234) (And.intro (@Tryz.underlying235) (And.intro (@Tryz.underlying236) (And.intro (@Tryz.underlying237) (And.intro (@Tryz.underlying238) (And.intro (@Tryz.underlying239) (And.intro (@Tryz.underlying240) (And.intro (@Tryz.underlying241) (And.intro (@Tryz.underlying242) (And.intro (@Tryz.underlying243) (And.intro (@Tryz.underlying244) (And.intro (@Tryz.underlying245) (And.intro (@Tryz.underlying246) (And.intro (@Tryz.underlying247) (And.intro (@Tryz.underlying248) (And.intro (@Tryz.underlying249) (And.intro (@Tryz.underlying250) (And.intro (@Tryz.underlying251) (And.intro (@Tryz.underlying252) (And.intro (@Tryz.underlying253) (And.intro (@Tryz.underlying254) (And.intro (@Tryz.underlying255) (And.intro (@Tryz.underlying256) (And.intro (@Tryz.underlying257) (And.intro (@Tryz.underlying258) (And.intro (@Tryz.underlying259) (And.intro (@Tryz.underlying260) (And.intro (@Tryz.underlying261) (And.intro (@Tryz.underlying262) (And.intro (@Tryz.underlying263) (And.intro (@Tryz.underlying264) (And.intro (@Tryz.underlying265) (And.intro (@Tryz.underlying266) (And.intro (@Tryz.underlying267) (And.intro (@Tryz.underlying268) (And.intro (@Tryz.underlying269) (And.intro (@Tryz.underlying270) (And.intro (@Tryz.underlying271) (And.intro (@Tryz.underlying272) (And.intro (@Tryz.underlying273) (And.intro (@Tryz.underlying274) (And.intro (@Tryz.underlying275) (And.intro (@Tryz.underlying276) (And.intro (@Tryz.underlying277) (And.intro (@Tryz.underlying278) (And.intro (@Tryz.underlying279) (And.intro (@Tryz.underlying280) (And.intro (@Tryz.underlying281) (And.intro (@Tryz.underlying282) (And.intro (@Tryz.underlying283) (And.intro (@Tryz.underlying284) (And.intro (@Tryz.underlying285) (And.intro (@Tryz.underlying286) (And.intro (@Tryz.underlying287) (And.intro (@Tryz.underlying288) (And.intro (@Tryz.underlying289) (And.intro (@Tryz.underlying290) (And.intro (@Tryz.underlying291) (And.intro (@Tryz.underlying292) (And.intro (@Tryz.underlying293) (And.intro (@Tryz.underlying294) (And.intro (@Tryz.underlying295) (And.intro (@Tryz.underlying296) (And.intro (@Tryz.underlying297) (And.intro (@Tryz.underlying298) (And.intro (@Tryz.underlying299) (And.intro (@Tryz.underlying300) (And.intro (@Tryz.underlying301) (And.intro (@Tryz.underlying302) (And.intro (@Tryz.underlying303) (And.intro (@Tryz.underlying304) (And.intro (@Tryz.underlying305) (And.intro (@Tryz.underlying306) (And.intro (@Tryz.underlying307) (And.intro (@Tryz.underlying308) (And.intro (@Tryz.underlying309) (And.intro (@Tryz.underlying310) (And.intro (@Tryz.underlying311) (And.intro (@Tryz.underlying312) (And.intro (@Tryz.underlying313) (And.intro (@Tryz.underlying314) (And.intro (@Tryz.underlying315) (And.intro (@Tryz.underlying316) (And.intro (@Tryz.underlying317) (And.intro (@Tryz.underlying318) (And.intro (@Tryz.underlying319) (And.intro (@Tryz.underlying320) (And.intro (@Tryz.underlying321) (And.intro (@Tryz.underlying322) (And.intro (@Tryz.underlying323) (And.intro (@Tryz.underlying324) (And.intro (@Tryz.underlying325) (And.intro (@Tryz.underlying326) (And.intro (@Tryz.underlying327) (And.intro (@Tryz.underlying328) (And.intro (@Tryz.underlying329) (And.intro (@Tryz.underlying330) (And.intro (@Tryz.underlying331) (And.intro (@Tryz.underlying332) (And.intro (@Tryz.underlying333) (And.intro (@Tryz.underlying334) (And.intro (@Tryz.underlying335) (And.intro (@Tryz.underlying336) (And.intro (@Tryz.underlying337) (And.intro (@Tryz.underlying338) (And.intro (@Tryz.underlying339) (And.intro (@Tryz.underlying340) (And.intro (@Tryz.underlying341) (And.intro (@Tryz.underlying342) (And.intro (@Tryz.underlying343) (And.intro (@Tryz.underlying344) (And.intro (@Tryz.underlying345) (And.intro (@Tryz.underlying346) (And.intro (@Tryz.underlying347) (And.intro (@Tryz.underlying348) (And.intro (@Tryz.underlying349) (And.intro (@Tryz.underlying350) (And.intro (@Tryz.underlying351) (And.intro (@Tryz.underlying352) (And.intro (@Tryz.underlying353) (And.intro (@Tryz.underlying354) (And.intro (@Tryz.underlying355) (And.intro (@Tryz.underlying356) (And.intro (@Tryz.underlying357) (And.intro (@Tryz.underlying358) (And.intro (@Tryz.underlying359) (And.intro (@Tryz.underlying360) (And.intro (@Tryz.underlying361) (And.intro (@Tryz.underlying362) (And.intro (@Tryz.underlying363) (And.intro (@Tryz.underlying364) (And.intro (@Tryz.underlying365) (And.intro (@Tryz.underlying366) (And.intro (@Tryz.underlying367) (And.intro (@Tryz.underlying368) (And.intro (@Tryz.underlying369) (And.intro (@Tryz.underlying370) (And.intro (@Tryz.underlying371) (And.intro (@Tryz.underlying372) (And.intro (@Tryz.underlying373) (And.intro (@Tryz.underlying374) (And.intro (@Tryz.underlying375) (And.intro (@Tryz.underlying376) (And.intro (@Tryz.underlying377) (And.intro (@Tryz.underlying378) (And.intro (@Tryz.underlying379) (And.intro (@Tryz.underlying380) (And.intro (@Tryz.underlying381) (And.intro (@Tryz.underlying382) (And.intro (@Tryz.underlying383) (And.intro (@Tryz.underlying384) (And.intro (@Tryz.underlying385) (And.intro (@Tryz.underlying386) (And.intro (@Tryz.underlying387) (And.intro (@Tryz.underlying388) (And.intro (@Tryz.underlying389) (And.intro (@Tryz.underlying390) (And.intro (@Tryz.underlying391) (And.intro (@Tryz.underlying392) (And.intro (@Tryz.underlying393) (And.intro (@Tryz.underlying394) (And.intro (@Tryz.underlying395) (And.intro (@Tryz.underlying396) (And.intro (@Tryz.underlying397) (And.intro (@Tryz.underlying398) (And.intro (@Tryz.underlying399) (And.intro (@Tryz.underlying400) (And.intro (@Tryz.underlying401) (And.intro (@Tryz.underlying402) (And.intro (@Tryz.underlying403) (And.intro (@Tryz.underlying404) (And.intro (@Tryz.underlying405) (And.intro (@Tryz.underlying406) (And.intro (@Tryz.underlying407) (And.intro (@Tryz.underlying408) (And.intro (@Tryz.underlying409) (And.intro (@Tryz.underlying410) (And.intro (@Tryz.underlying411) (And.intro (@Tryz.underlying412) (And.intro (@Tryz.underlying413) (And.intro (@Tryz.underlying414) (And.intro (@Tryz.underlying415) (And.intro (@Tryz.underlying416) (And.intro (@Tryz.underlying417) (And.intro (@Tryz.underlying418) (And.intro (@Tryz.underlying419) (And.intro (@Tryz.underlying420) (And.intro (@Tryz.underlying421) (And.intro (@Tryz.underlying422) (And.intro (@Tryz.underlying423) (And.intro (@Tryz.underlying424) (And.intro (@Tryz.underlying425) (And.intro (@Tryz.underlying426) (And.intro (@Tryz.underlying427) (And.intro (@Tryz.underlying428) (And.intro (@Tryz.underlying429) (And.intro (@Tryz.underlying430) (And.intro (@Tryz.underlying431) (And.intro (@Tryz.underlying432) (And.intro (@Tryz.underlying433) (And.intro (@Tryz.underlying434) (And.intro (@Tryz.underlying435) (And.intro (@Tryz.underlying436) (And.intro (@Tryz.underlying437) (And.intro (@Tryz.underlying438) (And.intro (@Tryz.underlying439) (And.intro (@Tryz.underlying440) (And.intro (@Tryz.underlying441) (And.intro (@Tryz.underlying442) (And.intro (@Tryz.underlying443) (And.intro (@Tryz.underlying444) (And.intro (@Tryz.underlying445) (And.intro (@Tryz.underlying446) (And.intro (@Tryz.underlying447) (And.intro (@Tryz.underlying448) (And.intro (@Tryz.underlying449) (And.intro (@Tryz.underlying450) (And.intro (@Tryz.underlying451) (And.intro (@Tryz.underlying452) (And.intro (@Tryz.underlying453) (And.intro (@Tryz.underlying454) (And.intro (@Tryz.underlying455) (And.intro (@Tryz.underlying456) (And.intro (@Tryz.underlying457) (And.intro (@Tryz.underlying458) (And.intro (@Tryz.underlying459) (And.intro (@Tryz.underlying460) (And.intro (@Tryz.underlying461) (And.intro (@Tryz.underlying462) (And.intro (@Tryz.underlying463) (And.intro (@Tryz.underlying464) (And.intro (@Tryz.underlying465) (And.intro (@Tryz.underlying466) (And.intro (@Tryz.underlying467) (And.intro (@Tryz.underlying468) (And.intro (@Tryz.underlying469) (And.intro (@Tryz.underlying470) (And.intro (@Tryz.underlying471) (And.intro (@Tryz.underlying472) (And.intro (@Tryz.underlying473) (And.intro (@Tryz.underlying474) (And.intro (@Tryz.underlying475) (And.intro (@Tryz.underlying476) (And.intro (@Tryz.underlying477) (And.intro (@Tryz.underlying478) (And.intro (@c0) (And.intro (@c1) (And.intro (@c2) (And.intro (@c3) (And.intro (@c4) (And.intro (@c5) (And.intro (@c6) (And.intro (@c7) (And.intro (@c8) (And.intro (@c9) (And.intro (@c10) (And.intro (@c11) (And.intro (@c12) (And.intro (@c13) (And.intro (@c14) (And.intro (@c15) (And.intro (@c16) (And.intro (@c17) (And.intro (@c18) (And.intro (@c19) (And.intro (@c20) (And.intro (@c21) (And.intro (@c22) (And.intro (@c23) (And.intro (@c24) (And.intro (@c25) (And.intro (@c26) (And.intro (@c27) (And.intro (@c28) (And.intro (@c29) (And.intro (@c30) (And.intro (@c31) (And.intro (@c32) (And.intro (@c33) (And.intro (@c34) (And.intro (@c35) (And.intro (@c36) (And.intro (@c37) (And.intro (@c38) (And.intro (@c39) (And.intro (@c40) (And.intro (@c41) (And.intro (@c42) (And.intro (@c43) (And.intro (@c44) (And.intro (@c45) (And.intro (@c46) (And.intro (@c47) (And.intro (@c48) (And.intro (@c49) (And.intro (@c50) (And.intro (@c51) (And.intro (@c52) (And.intro (@c53) (And.intro (@c54) (And.intro (@c55) (And.intro (@c56) (And.intro (@c57) (And.intro (@c58) (And.intro (@c59) (And.intro (@c60) (And.intro (@c61) (And.intro (@c62) (And.intro (@c63) (And.intro (@c64) (And.intro (@c65) (And.intro (@c66) (And.intro (@c67) (And.intro (@c68) (And.intro (@c69) (And.intro (@c70) (And.intro (@c71) (And.intro (@c72) (And.intro (@c73) (And.intro (@c74) (And.intro (@c75) (And.intro (@c76) (And.intro (@c77) (And.intro (@c78) (And.intro (@c79) (And.intro (@c80) (And.intro (@c81) (And.intro (@c82) (And.intro (@c83) (And.intro (@c84) (And.intro (@c85) (And.intro (@c86) (And.intro (@c87) (And.intro (@c88) (And.intro (@c89) (And.intro (@c90) (And.intro (@c91) (And.intro (@c92) (And.intro (@c93) (And.intro (@c94) (And.intro (@c95) (And.intro (@c96) (And.intro (@c97) (And.intro (@c98) (And.intro (@c99) (And.intro (@c100) (And.intro (@c101) (And.intro (@c102) (And.intro (@c103) (And.intro (@c104) (And.intro (@c105) (And.intro (@c106) (And.intro (@c107) (And.intro (@c108) (And.intro (@c109) (And.intro (@c110) (And.intro (@c111) (And.intro (@c112) (And.intro (@c113) (And.intro (@c114) (And.intro (@c115) (And.intro (@c116) (And.intro (@c117) (And.intro (@c118) (And.intro (@c119) (And.intro (@c120) (And.intro (@c121) (And.intro (@c122) (And.intro (@c123) (And.intro (@c124) (And.intro (@c125) (And.intro (@c126) (And.intro (@c127) (And.intro (@c128) (And.intro (@c129) (And.intro (@c130) (And.intro (@c131) (And.intro (@c132) (And.intro (@c133) (And.intro (@c134) (And.intro (@c135) (And.intro (@c136) (And.intro (@c137) (And.intro (@c138) (And.intro (@c139) (And.intro (@c140) (And.intro (@c141) (And.intro (@c142) (And.intro (@c143) (And.intro (@c144) (And.intro (@c145) (And.intro (@c146) (And.intro (@c147) (And.intro (@c148) (And.intro (@c149) (And.intro (@c150) (And.intro (@c151) (And.intro (@c152) (And.intro (@c153) (And.intro (@c154) (And.intro (@c155) (And.intro (@c156) (And.intro (@c157) (And.intro (@c158) (And.intro (@c159) (And.intro (@c160) (And.intro (@c161) (And.intro (@c162) (And.intro (@c163) (And.intro (@c164) (And.intro (@c165) (And.intro (@c166) (And.intro (@c167) (And.intro (@c168) (And.intro (@c169) (And.intro (@c170) (And.intro (@c171) (And.intro (@c172) (And.intro (@c173) (And.intro (@c174) (And.intro (@c175) (And.intro (@c176) (And.intro (@c177) (And.intro (@c178) (And.intro (@c179) (And.intro (@c180) (And.intro (@c181) (And.intro (@c182) (And.intro (@c183) (And.intro (@c184) (And.intro (@c185) (And.intro (@c186) (And.intro (@c187) (And.intro (@c188) (And.intro (@c189) (And.intro (@c190) (And.intro (@c191) (And.intro (@c192) (And.intro (@c193) (And.intro (@c194) (And.intro (@c195) (And.intro (@c196) (And.intro (@c197) (And.intro (@c198) (And.intro (@c199) (And.intro (@c200) (And.intro (@c201) (And.intro (@c202) (And.intro (@c203) (And.intro (@c204) (And.intro (@c205) (And.intro (@c206) (And.intro (@c207) (And.intro (@c208) (And.intro (@c209) (And.intro (@c210) (And.intro (@c211) (And.intro (@c212) (And.intro (@c213) (And.intro (@c214) (And.intro (@c215) (And.intro (@c216) (And.intro (@c217) (And.intro (@c218) (And.intro (@c219) (And.intro (@c220) (And.intro (@c221) (And.intro (@c222) (And.intro (@c223) (And.intro (@c224) (And.intro (@c225) (And.intro (@c226) (And.intro (@c227) (And.intro (@c228) (And.intro (@c229) (And.intro (@c230) (And.intro (@c231) (And.intro (@c232) (And.intro (@c233) (And.intro (@c234) (And.intro (@c235) (And.intro (@c236) (And.intro (@c237) (And.intro (@c238) (And.intro (@c239) (And.intro (@c240) (And.intro (@c241) (And.intro (@c242) (And.intro (@c243) (And.intro (@c244) (And.intro (@c245) (And.intro (@c246) (And.intro (@c247) (And.intro (@c248) (And.intro (@c249) (And.intro (@c250) (And.intro (@c251) (And.intro (@c252) (And.intro (@c253) (And.intro (@c254) (And.intro (@c255) (And.intro (@c256) (And.intro (@c257) (And.intro (@c258) (And.intro (@c259) (And.intro (@c260) (And.intro (@c261) (And.intro (@c262) (And.intro (@c263) (And.intro (@c264) (And.intro (@c265) (And.intro (@c266) (And.intro (@c267) (And.intro (@c268) (And.intro (@c269) (And.intro (@c270) (And.intro (@c271) (And.intro (@c272) (And.intro (@c273) (And.intro (@c274) (And.intro (@c275) (And.intro (@c276) (And.intro (@c277) (And.intro (@c278) (And.intro (@c279) (And.intro (@c280) (And.intro (@c281) (And.intro (@c282) (And.intro (@c283) (And.intro (@c284) (And.intro (@c285) (And.intro (@c286) (And.intro (@c287) (And.intro (@c288) (And.intro (@c289) (And.intro (@c290) (And.intro (@c291) (And.intro (@c292) (And.intro (@c293) (And.intro (@c294) (And.intro (@c295) (And.intro (@c296) (And.intro (@c297) (And.intro (@c298) (And.intro (@c299) (And.intro (@c300) (And.intro (@c301) (And.intro (@c302) (And.intro (@c303) (And.intro (@c304) (And.intro (@c305) (And.intro (@c306) (And.intro (@c307) (And.intro (@c308) (And.intro (@c309) (And.intro (@c310) (And.intro (@c311) (And.intro (@c312) (And.intro (@c313) (And.intro (@c314) (And.intro (@c315) (And.intro (@c316) (And.intro (@c317) (And.intro (@c318) (And.intro (@c319) (And.intro (@c320) (And.intro (@c321) (And.intro (@c322) (And.intro (@c323) (And.intro (@c324) (And.intro (@c325) (And.intro (@c326) (And.intro (@c327) (And.intro (@c328) (And.intro (@c329) (And.intro (@c330) (And.intro (@c331) (And.intro (@c332) (And.intro (@c333) (And.intro (@c334) (And.intro (@c335) (And.intro (@c336) (And.intro (@c337) (And.intro (@c338) (And.intro (@c339) (And.intro (@c340) (And.intro (@c341) (And.intro (@c342) (And.intro (@c343) (And.intro (@c344) (And.intro (@c345) (And.intro (@c346) (And.intro (@c347) (And.intro (@c348) (And.intro (@c349) (And.intro (@c350) (And.intro (@c351) (And.intro (@c352) (And.intro (@c353) (And.intro (@c354) (And.intro (@c355) (And.intro (@c356) (And.intro (@c357) (And.intro (@c358) (And.intro (@c359) (And.intro (@c360) (And.intro (@c361) (And.intro (@c362) (And.intro (@c363) (And.intro (@c364) (And.intro (@c365) (And.intro (@c366) (And.intro (@c367) (And.intro (@c368) (And.intro (@c369) (And.intro (@c370) (And.intro (@c371) (And.intro (@c372) (And.intro (@c373) (And.intro (@c374) (And.intro (@c375) (And.intro (@c376) (And.intro (@c377) (And.intro (@c378) (And.intro (@c379) (And.intro (@c380) (And.intro (@c381) (And.intro (@c382) (And.intro (@c383) (And.intro (@c384) (And.intro (@c385) (And.intro (@c386) (And.intro (@c387) (And.intro (@c388) (And.intro (@c389) (And.intro (@c390) (And.intro (@c391) (And.intro (@c392) (And.intro (@c393) (And.intro (@c394) (And.intro (@c395) (And.intro (@c396) (And.intro (@c397) (And.intro (@c398) (And.intro (@c399) (And.intro (@c400) (And.intro (@c401) (And.intro (@c402) (And.intro (@c403) (And.intro (@c404) (And.intro (@c405) (And.intro (@c406) (And.intro (@c407) (And.intro (@c408) (And.intro (@c409) (And.intro (@c410) (And.intro (@c411) (And.intro (@c412) (And.intro (@c413) (And.intro (@c414) (And.intro (@c415) (And.intro (@c416) (And.intro (@c417) (And.intro (@c418) (And.intro (@c419) (And.intro (@c420) (And.intro (@c421) (And.intro (@c422) (And.intro (@c423) (And.intro (@c424) (And.intro (@c425) (And.intro (@c426) (And.intro (@c427) (And.intro (@c428) (And.intro (@c429) (And.intro (@c430) (And.intro (@c431) (And.intro (@c432) (And.intro (@c433) (And.intro (@c434) (And.intro (@c435) (And.intro (@c436) (And.intro (@c437) (And.intro (@c438) (And.intro (@c439) (And.intro (@c440) (And.intro (@c441) (And.intro (@c442) (And.intro (@c443) (And.intro (@c444) (And.intro (@c445) (And.intro (@c446) (And.intro (@c447) (And.intro (@c448) (And.intro (@c449) (And.intro (@c450) (And.intro (@c451) (And.intro (@c452) (And.intro (@c453) (And.intro (@c454) (And.intro (@c455) (And.intro (@c456) (And.intro (@c457) (And.intro (@c458) (And.intro (@c459) (And.intro (@c460) (And.intro (@c461) (And.intro (@c462) (And.intro (@c463) (And.intro (@c464) (And.intro (@c465) (And.intro (@c466) (And.intro (@c467) (And.intro (@c468) (And.intro (@c469) (And.intro (@c470) (And.intro (@c471) (And.intro (@c472) (And.intro (@c473) (And.intro (@c474) (And.intro (@c475) (And.intro (@c476) (And.intro (@c477) (And.intro (@c478) (And.intro (@z1) (And.intro (@z2) (And.intro (@z3) (And.intro (@z4) (And.intro (@z5) (And.intro (@z6) (And.intro (@z7) (And.intro (@z8) (And.intro (@z9) (And.intro (@z10) (And.intro (@z11) (And.intro (@z12) (And.intro (@z13) (And.intro (@z14) (And.intro (@z15) (And.intro (@z16) (And.intro (@z17) (And.intro (@z18) (And.intro (@z19) (And.intro (@z20) (And.intro (@z21) (And.intro (@z22) (And.intro (@z23) (And.intro (@z24) (And.intro (@z25) (And.intro (@z26) (And.intro (@z27) (And.intro (@z28) (And.intro (@z29) (And.intro (@z30) (And.intro (@z31) (And.intro (@z33) (And.intro (@z35) (And.intro (@z36) (And.intro (@z38) (And.intro (@z39) (And.intro (@z41) (And.intro (@z43) (And.intro (@z44) (And.intro (@z45) (And.intro (@z46) (And.intro (@z47) (And.intro (@z48) (And.intro (@z49) (And.intro (@z50) (And.intro (@z51) (And.intro (@z52) (And.intro (@z53) (And.intro (@z54) (And.intro (@z55) (And.intro (@z56) (And.intro (@z58) (And.intro (@z59) (And.intro (@z61) (And.intro (@z63) (And.intro (@z64) (And.intro (@z65) (And.intro (@z66) (And.intro (@z67) (And.intro (@z68) (And.intro (@z69) (And.intro (@z71) (And.intro (@z72) (And.intro (@z73) (And.intro (@z74) (And.intro (@z75) (And.intro (@z76) (And.intro (@z78) (And.intro (@z79) (And.intro (@z80) (And.intro (@z81) (And.intro (@z83) (And.intro (@z84) (And.intro (@z85) (And.intro (@z86) (And.intro (@z88) (And.intro (@z89) (And.intro (@z90) (And.intro (@z91) (And.intro (@z92) (And.intro (@z93) (And.intro (@z94) (And.intro (@z95) (And.intro (@z96) (And.intro (@z97) (And.intro (@z98) (And.intro (@z99) (And.intro (@z100) (And.intro (@z101) (And.intro (@z103) (And.intro (@z104) (And.intro (@z105) (And.intro (@z106) (And.intro (@z108) (And.intro (@z109) (And.intro (@z110) (And.intro (@z112) (And.intro (@z114) (And.intro (@z116) (And.intro (@z117) (And.intro (@z119) (And.intro (@z120) (And.intro (@z121) (And.intro (@z122) (And.intro (@z123) (And.intro (@z124) (And.intro (@z125) (And.intro (@z127) (And.intro (@z129) (And.intro (@z130) (And.intro (@z131) (And.intro (@z132) (And.intro (@z133) (And.intro (@z134) (And.intro (@z135) (And.intro (@z136) (And.intro (@z137) (And.intro (@z138) (And.intro (@z139) (And.intro (@z140) (And.intro (@z141) (And.intro (@z142) (And.intro (@z144) (And.intro (@z145) (And.intro (@z147) (And.intro (@z149) (And.intro (@z151) (And.intro (@z152) (And.intro (@z153) (And.intro (@z154) (And.intro (@z155) (And.intro (@z156) (And.intro (@z158) (And.intro (@z159) (And.intro (@z160) (And.intro (@z161) (And.intro (@z163) (And.intro (@z164) (And.intro (@z165) (And.intro (@z166) (And.intro (@z167) (And.intro (@z169) (And.intro (@z170) (And.intro (@z171) (And.intro (@z173) (And.intro (@z175) (And.intro (@z176) (And.intro (@z177) (And.intro (@z178) (And.intro (@z179) (And.intro (@z180) (And.intro (@z181) (And.intro (@z182) (And.intro (@z183) (And.intro (@z184) (And.intro (@z185) (And.intro (@z186) (And.intro (@z187) (And.intro (@z188) (And.intro (@z189) (And.intro (@z190) (And.intro (@z191) (And.intro (@z192) (And.intro (@z193) (And.intro (@z195) (And.intro (@z196) (And.intro (@z197) (And.intro (@z198) (And.intro (@z199) (And.intro (@z201) (And.intro (@z202) (And.intro (@z203) (And.intro (@z204) (And.intro (@z205) (And.intro (@z206) (And.intro (@z207) (And.intro (@z208) (And.intro (@z209) (And.intro (@z210) (And.intro (@z211) (And.intro (@z212) (And.intro (@z213) (And.intro (@z214) (And.intro (@z215) (And.intro (@z216) (And.intro (@z218) (And.intro (@z219) (And.intro (@z220) (And.intro (@z221) (And.intro (@z222) (And.intro (@z223) (And.intro (@z224) (And.intro (@z225) (And.intro (@z226) (And.intro (@z228) (And.intro (@z229) (And.intro (@z230) (And.intro (@z231) (And.intro (@z232) (And.intro (@z233) (And.intro (@z234) (And.intro (@z235) (And.intro (@z236) (And.intro (@z237) (And.intro (@z238) (And.intro (@z239) (And.intro (@z240) (And.intro (@z241) (And.intro (@z242) (And.intro (@z243) (And.intro (@z244) (And.intro (@z245) (And.intro (@z246) (And.intro (@z247) (And.intro (@z248) (And.intro (@z249) (And.intro (@z250) (And.intro (@z251) (And.intro (@z252) (And.intro (@z253) (And.intro (@z255) (And.intro (@z256) (And.intro (@z257) (And.intro (@z258) (And.intro (@z259) (And.intro (@z260) (And.intro (@z261) (And.intro (@z262) (And.intro (@z263) (And.intro (@z264) (And.intro (@z265) (And.intro (@z266) (And.intro (@z267) (And.intro (@z268) (And.intro (@z269) (And.intro (@z270) (And.intro (@z271) (And.intro (@z272) (And.intro (@z273) (And.intro (@z274) (And.intro (@z275) (And.intro (@z276) (And.intro (@z277) (And.intro (@z278) (And.intro (@z279) (And.intro (@z280) (And.intro (@z281) (And.intro (@z282) (And.intro (@z283) (And.intro (@z284) (And.intro (@z285) (And.intro (@z286) (And.intro (@z287) (And.intro (@z289) (And.intro (@z290) (And.intro (@z291) (And.intro (@z292) (And.intro (@z293) (And.intro (@z294) (And.intro (@z295) (And.intro (@z296) (And.intro (@z297) (And.intro (@z298) (And.intro (@z299) (And.intro (@z300) (And.intro (@z301) (And.intro (@z302) (And.intro (@z303) (And.intro (@z304) (And.intro (@z305) (And.intro (@z306) (And.intro (@z307) (And.intro (@z308) (And.intro (@z309) (And.intro (@z310) (And.intro (@z311) (And.intro (@z312) (And.intro (@z313) (And.intro (@z314) (And.intro (@z315) (And.intro (@z316) (And.intro (@z317) (And.intro (@z318) (And.intro (@z319) (And.intro (@z320) (And.intro (@z321) (And.intro (@z322) (And.intro (@z323) (And.intro (@z324) (And.intro (@z325) (And.intro (@z326) (And.intro (@z327) (And.intro (@z328) (And.intro (@z329) (And.intro (@z330) (And.intro (@z331) (And.intro (@z332) (And.intro (@z333) (And.intro (@z334) (And.intro (@z335) (And.intro (@z336) (And.intro (@z337) (And.intro (@z338) (And.intro (@z339) (And.intro (@z340) (And.intro (@z341) (And.intro (@z342) (And.intro (@z343) (And.intro (@z345) (And.intro (@z346) (And.intro (@z347) (And.intro (@z348) (And.intro (@z349) (And.intro (@z351) (And.intro (@z352) (And.intro (@z353) (And.intro (@z354) (And.intro (@z355) (And.intro (@z356) (And.intro (@z357) (And.intro (@z358) (And.intro (@z359) (And.intro (@z360) (And.intro (@z361) (And.intro (@z362) (And.intro (@z363) (And.intro (@z364) (And.intro (@z365) (And.intro (@z366) (And.intro (@z367) (And.intro (@z369) (And.intro (@z371) (And.intro (@z372) (And.intro (@z374) (And.intro (@z376) (And.intro (@z378) (And.intro (@z380) (And.intro (@z381) (And.intro (@z383) (And.intro (@z384) (And.intro (@z385) (And.intro (@z386) (And.intro (@z387) (And.intro (@z388) (And.intro (@z389) (And.intro (@z390) (And.intro (@z391) (And.intro (@z392) (And.intro (@z393) (And.intro (@z394) (And.intro (@z395) (And.intro (@z396) (And.intro (@z397) (And.intro (@z398) (And.intro (@z399) (And.intro (@z400) (And.intro (@z401) (And.intro (@z402) (And.intro (@z403) (And.intro (@z404) (And.intro (@z405) (And.intro (@z406) (And.intro (@z407) (And.intro (@z408) (And.intro (@z409) (And.intro (@z410) (And.intro (@z411) (And.intro (@z412) (And.intro (@z413) (And.intro (@z414) (And.intro (@z415) (And.intro (@z416) (And.intro (@z417) (And.intro (@z418) (And.intro (@z420) (And.intro (@z421) (And.intro (@z423) (And.intro (@z425) (And.intro (@z426) (And.intro (@z428) (And.intro (@z429) (And.intro (@z430) (And.intro (@z431) (And.intro (@z432) (And.intro (@z433) (And.intro (@z434) (And.intro (@z435) (And.intro (@z437) (And.intro (@z438) (And.intro (@z439) (And.intro (@z440) (And.intro (@z441) (And.intro (@z442) (And.intro (@z443) (And.intro (@z444) (And.intro (@z446) (And.intro (@z448) (And.intro (@z449) (And.intro (@z450) (And.intro (@z452) (And.intro (@z453) (And.intro (@z455) (And.intro (@z456) (And.intro (@z457) (And.intro (@z458) (And.intro (@z459) (And.intro (@z460) (And.intro (@z462) (And.intro (@z463) (And.intro (@z464) (And.intro (@z465) (And.intro (@z466) (And.intro (@z467) (And.intro (@z468) (And.intro (@z469) (And.intro (@z470) (And.intro (@z471) (And.intro (@z472) (And.intro (@z473) (And.intro (@z474) (And.intro (@z475) (And.intro (@z476) (And.intro (@z477) (@z478)))))))))))))))))))))))))))))))))))))))))))))))))))))))))))))))))))))))))))))))))))))))))))))))))))))))))))))))))))))))))))))))))))))))))))))))))))))))))))))))))))))))))))))))))))))))))))))))))))))))))))))))))))))))))))))))))))))))))))))))))))))))))))))))))))))))))))))))))))))))))))))))))))))))))))))))))))))))))))))))))))))))))))))))))))))))))))))))))))))))))))))))))))))))))))))))))))))))))))))))))))))))))))))))))))))))))))))))))))))))))))))))))))))))))))))))))))))))))))))))))))))))))))))))))))))))))))))))))))))))))))))))))))))))))))))))))))))))))))))))))))))))))))))))))))))))))))))))))))))))))))))))))))))))))))))))))))))))))))))))))))))))))))))))))))))))))))))))))))))))))))))))))))))))))))))))))))))))))))))))))))))))))))))))))))))))))))))))))))))))))))))))))))))))))))))))))))))))))))))))))))))))))))))))))))))))))))))))))))))))))))))))))))))))))))))))))))))))))))))))))))))))))))))))))))))))))))))))))))))))))))))))))))))))))))))))))))))))))))))))))))))))))))))))))))))))))))))))))))))))))))))))))))))))))))))))))))))))))))))))))))))))))))))))))))))))))))))))))))))))))))))))))))))))))))))))))))))))))))))))))))))))))))))))))))))))))))))))))))))))))))))))))))))))))))))))))))))))))))))))))))))))))))))))))))))))))))))))))))))))))))))))))))))))))))))))))))))))))))))))))))))))))))))))))))))))))))))))))))))))))))))))))))))))))))))))))))))))))))))))))))))))))))))))))))))
end Go.Proofs.YthlkfjoibjhaiaaGreatDoor

/-
  Facts on the seat's types, written by wip/mk.py: how many cells and bytes a type has. Conditions: none.
-/
import Derived.Test.YtieaoldoiahgpaaDoorMWholeMap5
import Derived.Test.YtieaoldoiahgpaaDoorRows
/-! Ty -/
namespace Go.Proofs.YtieaoldoiahgpaaDoor
open Go
theorem c0 : Tryd.prog.cellsOf 0 = 1 := by kernel_rfl
theorem by0 : Tryd.prog.bytesOf 0 = 0 := by kernel_rfl
theorem c1 : Tryd.prog.cellsOf 1 = 1 := by kernel_rfl
theorem by1 : Tryd.prog.bytesOf 1 = 8 := by kernel_rfl
theorem c2 : Tryd.prog.cellsOf 2 = 1 := by kernel_rfl
theorem by2 : Tryd.prog.bytesOf 2 = 8 := by kernel_rfl
theorem c3 : Tryd.prog.cellsOf 3 = 1 := by kernel_rfl
theorem by3 : Tryd.prog.bytesOf 3 = 8 := by kernel_rfl
theorem c4 : Tryd.prog.cellsOf 4 = 1 := by kernel_rfl
theorem by4 : Tryd.prog.bytesOf 4 = 1 := by kernel_rfl
theorem c5 : Tryd.prog.cellsOf 5 = 1 := by kernel_rfl
theorem by5 : Tryd.prog.bytesOf 5 = 1 := by kernel_rfl
theorem c6 : Tryd.prog.cellsOf 6 = 1 := by kernel_rfl
theorem by6 : Tryd.prog.bytesOf 6 = 1 := by kernel_rfl
theorem c7 : Tryd.prog.cellsOf 7 = 4 := by kernel_rfl
theorem by7 : Tryd.prog.bytesOf 7 = 24 := by kernel_rfl
theorem c8 : Tryd.prog.cellsOf 8 = 4 := by kernel_rfl
theorem by8 : Tryd.prog.bytesOf 8 = 24 := by kernel_rfl
theorem c9 : Tryd.prog.cellsOf 9 = 1 := by kernel_rfl
theorem by9 : Tryd.prog.bytesOf 9 = 16 := by kernel_rfl
theorem c10 : Tryd.prog.cellsOf 10 = 1 := by kernel_rfl
theorem by10 : Tryd.prog.bytesOf 10 = 16 := by kernel_rfl
theorem c11 : Tryd.prog.cellsOf 11 = 1 := by kernel_rfl
theorem by11 : Tryd.prog.bytesOf 11 = 16 := by kernel_rfl
theorem c12 : Tryd.prog.cellsOf 12 = 1 := by kernel_rfl
theorem by12 : Tryd.prog.bytesOf 12 = 8 := by kernel_rfl
theorem c13 : Tryd.prog.cellsOf 13 = 2 := by kernel_rfl
theorem by13 : Tryd.prog.bytesOf 13 = 24 := by kernel_rfl
theorem c14 : Tryd.prog.cellsOf 14 = 2 := by kernel_rfl
theorem by14 : Tryd.prog.bytesOf 14 = 24 := by kernel_rfl
theorem c15 : Tryd.prog.cellsOf 15 = 1 := by kernel_rfl
theorem by15 : Tryd.prog.bytesOf 15 = 8 := by kernel_rfl
theorem c16 : Tryd.prog.cellsOf 16 = 1 := by kernel_rfl
theorem by16 : Tryd.prog.bytesOf 16 = 8 := by kernel_rfl
theorem c17 : Tryd.prog.cellsOf 17 = 1 := by kernel_rfl
theorem by17 : Tryd.prog.bytesOf 17 = 8 := by kernel_rfl
theorem c18 : Tryd.prog.cellsOf 18 = 1 := by kernel_rfl
theorem by18 : Tryd.prog.bytesOf 18 = 8 := by kernel_rfl
theorem c19 : Tryd.prog.cellsOf 19 = 1 := by kernel_rfl
theorem by19 : Tryd.prog.bytesOf 19 = 8 := by kernel_rfl
theorem c20 : Tryd.prog.cellsOf 20 = 1 := by kernel_rfl
theorem by20 : Tryd.prog.bytesOf 20 = 16 := by kernel_rfl
theorem c21 : Tryd.prog.cellsOf 21 = 1 := by kernel_rfl
theorem by21 : Tryd.prog.bytesOf 21 = 4 := by kernel_rfl
theorem c22 : Tryd.prog.cellsOf 22 = 1 := by kernel_rfl
theorem by22 : Tryd.prog.bytesOf 22 = 24 := by kernel_rfl
theorem c23 : Tryd.prog.cellsOf 23 = 1 := by kernel_rfl
theorem by23 : Tryd.prog.bytesOf 23 = 24 := by kernel_rfl
theorem c24 : Tryd.prog.cellsOf 24 = 1 := by kernel_rfl
theorem by24 : Tryd.prog.bytesOf 24 = 8 := by kernel_rfl
theorem c25 : Tryd.prog.cellsOf 25 = 1 := by kernel_rfl
theorem by25 : Tryd.prog.bytesOf 25 = 8 := by kernel_rfl
theorem c26 : Tryd.prog.cellsOf 26 = 1 := by kernel_rfl
theorem by26 : Tryd.prog.bytesOf 26 = 8 := by kernel_rfl
theorem c27 : Tryd.prog.cellsOf 27 = 1 := by kernel_rfl
theorem by27 : Tryd.prog.bytesOf 27 = 0 := by kernel_rfl
theorem c28 : Tryd.prog.cellsOf 28 = 1 := by kernel_rfl
theorem by28 : Tryd.prog.bytesOf 28 = 8 := by kernel_rfl
theorem c29 : Tryd.prog.cellsOf 29 = 3 := by kernel_rfl
theorem by29 : Tryd.prog.bytesOf 29 = 56 := by kernel_rfl
theorem c30 : Tryd.prog.cellsOf 30 = 3 := by kernel_rfl
theorem by30 : Tryd.prog.bytesOf 30 = 56 := by kernel_rfl
theorem c31 : Tryd.prog.cellsOf 31 = 1 := by kernel_rfl
theorem by31 : Tryd.prog.bytesOf 31 = 8 := by kernel_rfl
theorem c32 : Tryd.prog.cellsOf 32 = 1 := by kernel_rfl
theorem by32 : Tryd.prog.bytesOf 32 = 24 := by kernel_rfl
theorem c33 : Tryd.prog.cellsOf 33 = 1 := by kernel_rfl
theorem by33 : Tryd.prog.bytesOf 33 = 24 := by kernel_rfl
theorem c34 : Tryd.prog.cellsOf 34 = 1 := by kernel_rfl
theorem by34 : Tryd.prog.bytesOf 34 = 24 := by kernel_rfl
theorem c35 : Tryd.prog.cellsOf 35 = 32 := by kernel_rfl
theorem by35 : Tryd.prog.bytesOf 35 = 32 := by kernel_rfl
theorem c36 : Tryd.prog.cellsOf 36 = 32 := by kernel_rfl
theorem by36 : Tryd.prog.bytesOf 36 = 32 := by kernel_rfl
theorem c37 : Tryd.prog.cellsOf 37 = 1 := by kernel_rfl
theorem by37 : Tryd.prog.bytesOf 37 = 8 := by kernel_rfl
theorem c38 : Tryd.prog.cellsOf 38 = 1 := by kernel_rfl
theorem by38 : Tryd.prog.bytesOf 38 = 8 := by kernel_rfl
theorem c39 : Tryd.prog.cellsOf 39 = 1 := by kernel_rfl
theorem by39 : Tryd.prog.bytesOf 39 = 8 := by kernel_rfl
theorem c40 : Tryd.prog.cellsOf 40 = 1 := by kernel_rfl
theorem by40 : Tryd.prog.bytesOf 40 = 0 := by kernel_rfl
theorem c41 : Tryd.prog.cellsOf 41 = 1 := by kernel_rfl
theorem by41 : Tryd.prog.bytesOf 41 = 8 := by kernel_rfl
theorem c42 : Tryd.prog.cellsOf 42 = 1 := by kernel_rfl
theorem by42 : Tryd.prog.bytesOf 42 = 0 := by kernel_rfl
theorem c43 : Tryd.prog.cellsOf 43 = 1 := by kernel_rfl
theorem by43 : Tryd.prog.bytesOf 43 = 8 := by kernel_rfl
theorem c44 : Tryd.prog.cellsOf 44 = 1 := by kernel_rfl
theorem by44 : Tryd.prog.bytesOf 44 = 8 := by kernel_rfl
theorem c45 : Tryd.prog.cellsOf 45 = 1 := by kernel_rfl
theorem by45 : Tryd.prog.bytesOf 45 = 8 := by kernel_rfl
theorem c46 : Tryd.prog.cellsOf 46 = 1 := by kernel_rfl
theorem by46 : Tryd.prog.bytesOf 46 = 8 := by kernel_rfl
theorem c47 : Tryd.prog.cellsOf 47 = 1 := by kernel_rfl
theorem by47 : Tryd.prog.bytesOf 47 = 0 := by kernel_rfl
theorem c48 : Tryd.prog.cellsOf 48 = 1 := by kernel_rfl
theorem by48 : Tryd.prog.bytesOf 48 = 8 := by kernel_rfl
theorem c49 : Tryd.prog.cellsOf 49 = 2 := by kernel_rfl
theorem by49 : Tryd.prog.bytesOf 49 = 48 := by kernel_rfl
theorem c50 : Tryd.prog.cellsOf 50 = 2 := by kernel_rfl
theorem by50 : Tryd.prog.bytesOf 50 = 48 := by kernel_rfl
theorem c51 : Tryd.prog.cellsOf 51 = 1 := by kernel_rfl
theorem by51 : Tryd.prog.bytesOf 51 = 8 := by kernel_rfl
theorem c52 : Tryd.prog.cellsOf 52 = 1 := by kernel_rfl
theorem by52 : Tryd.prog.bytesOf 52 = 0 := by kernel_rfl
theorem c53 : Tryd.prog.cellsOf 53 = 1 := by kernel_rfl
theorem by53 : Tryd.prog.bytesOf 53 = 8 := by kernel_rfl
theorem c54 : Tryd.prog.cellsOf 54 = 1 := by kernel_rfl
theorem by54 : Tryd.prog.bytesOf 54 = 8 := by kernel_rfl
theorem c55 : Tryd.prog.cellsOf 55 = 1 := by kernel_rfl
theorem by55 : Tryd.prog.bytesOf 55 = 8 := by kernel_rfl
theorem c56 : Tryd.prog.cellsOf 56 = 1 := by kernel_rfl
theorem by56 : Tryd.prog.bytesOf 56 = 8 := by kernel_rfl
theorem c57 : Tryd.prog.cellsOf 57 = 1 := by kernel_rfl
theorem by57 : Tryd.prog.bytesOf 57 = 8 := by kernel_rfl
theorem c58 : Tryd.prog.cellsOf 58 = 1 := by kernel_rfl
theorem by58 : Tryd.prog.bytesOf 58 = 16 := by kernel_rfl
theorem c59 : Tryd.prog.cellsOf 59 = 1 := by kernel_rfl
theorem by59 : Tryd.prog.bytesOf 59 = 16 := by kernel_rfl
theorem c60 : Tryd.prog.cellsOf 60 = 2 := by kernel_rfl
theorem by60 : Tryd.prog.bytesOf 60 = 24 := by kernel_rfl
theorem c61 : Tryd.prog.cellsOf 61 = 2 := by kernel_rfl
theorem by61 : Tryd.prog.bytesOf 61 = 24 := by kernel_rfl
theorem c62 : Tryd.prog.cellsOf 62 = 1 := by kernel_rfl
theorem by62 : Tryd.prog.bytesOf 62 = 0 := by kernel_rfl
theorem c63 : Tryd.prog.cellsOf 63 = 1 := by kernel_rfl
theorem by63 : Tryd.prog.bytesOf 63 = 8 := by kernel_rfl
theorem c64 : Tryd.prog.cellsOf 64 = 1 := by kernel_rfl
theorem by64 : Tryd.prog.bytesOf 64 = 8 := by kernel_rfl
theorem c65 : Tryd.prog.cellsOf 65 = 1 := by kernel_rfl
theorem by65 : Tryd.prog.bytesOf 65 = 8 := by kernel_rfl
theorem c66 : Tryd.prog.cellsOf 66 = 1 := by kernel_rfl
theorem by66 : Tryd.prog.bytesOf 66 = 0 := by kernel_rfl
theorem c67 : Tryd.prog.cellsOf 67 = 1 := by kernel_rfl
theorem by67 : Tryd.prog.bytesOf 67 = 8 := by kernel_rfl
theorem c68 : Tryd.prog.cellsOf 68 = 65 := by kernel_rfl
theorem by68 : Tryd.prog.bytesOf 68 = 88 := by kernel_rfl
theorem c69 : Tryd.prog.cellsOf 69 = 65 := by kernel_rfl
theorem by69 : Tryd.prog.bytesOf 69 = 88 := by kernel_rfl
theorem c70 : Tryd.prog.cellsOf 70 = 1 := by kernel_rfl
theorem by70 : Tryd.prog.bytesOf 70 = 8 := by kernel_rfl
theorem c71 : Tryd.prog.cellsOf 71 = 1 := by kernel_rfl
theorem by71 : Tryd.prog.bytesOf 71 = 8 := by kernel_rfl
theorem c72 : Tryd.prog.cellsOf 72 = 1 := by kernel_rfl
theorem by72 : Tryd.prog.bytesOf 72 = 8 := by kernel_rfl
theorem c73 : Tryd.prog.cellsOf 73 = 1 := by kernel_rfl
theorem by73 : Tryd.prog.bytesOf 73 = 8 := by kernel_rfl
theorem c74 : Tryd.prog.cellsOf 74 = 1 := by kernel_rfl
theorem by74 : Tryd.prog.bytesOf 74 = 2 := by kernel_rfl
theorem c75 : Tryd.prog.cellsOf 75 = 1 := by kernel_rfl
theorem by75 : Tryd.prog.bytesOf 75 = 24 := by kernel_rfl
theorem c76 : Tryd.prog.cellsOf 76 = 35 := by kernel_rfl
theorem by76 : Tryd.prog.bytesOf 76 = 72 := by kernel_rfl
theorem c77 : Tryd.prog.cellsOf 77 = 35 := by kernel_rfl
theorem by77 : Tryd.prog.bytesOf 77 = 72 := by kernel_rfl
theorem c78 : Tryd.prog.cellsOf 78 = 1 := by kernel_rfl
theorem by78 : Tryd.prog.bytesOf 78 = 8 := by kernel_rfl
theorem c79 : Tryd.prog.cellsOf 79 = 1 := by kernel_rfl
theorem by79 : Tryd.prog.bytesOf 79 = 8 := by kernel_rfl
theorem c80 : Tryd.prog.cellsOf 80 = 1 := by kernel_rfl
theorem by80 : Tryd.prog.bytesOf 80 = 8 := by kernel_rfl
theorem c81 : Tryd.prog.cellsOf 81 = 1 := by kernel_rfl
theorem by81 : Tryd.prog.bytesOf 81 = 8 := by kernel_rfl
theorem c82 : Tryd.prog.cellsOf 82 = 1 := by kernel_rfl
theorem by82 : Tryd.prog.bytesOf 82 = 0 := by kernel_rfl
theorem c83 : Tryd.prog.cellsOf 83 = 1 := by kernel_rfl
theorem by83 : Tryd.prog.bytesOf 83 = 8 := by kernel_rfl
theorem c84 : Tryd.prog.cellsOf 84 = 1 := by kernel_rfl
theorem by84 : Tryd.prog.bytesOf 84 = 8 := by kernel_rfl
theorem c85 : Tryd.prog.cellsOf 85 = 1 := by kernel_rfl
theorem by85 : Tryd.prog.bytesOf 85 = 8 := by kernel_rfl
theorem c86 : Tryd.prog.cellsOf 86 = 1 := by kernel_rfl
theorem by86 : Tryd.prog.bytesOf 86 = 0 := by kernel_rfl
theorem c87 : Tryd.prog.cellsOf 87 = 1 := by kernel_rfl
theorem by87 : Tryd.prog.bytesOf 87 = 8 := by kernel_rfl
theorem c88 : Tryd.prog.cellsOf 88 = 1 := by kernel_rfl
theorem by88 : Tryd.prog.bytesOf 88 = 8 := by kernel_rfl
theorem c89 : Tryd.prog.cellsOf 89 = 1 := by kernel_rfl
theorem by89 : Tryd.prog.bytesOf 89 = 8 := by kernel_rfl
theorem c90 : Tryd.prog.cellsOf 90 = 1 := by kernel_rfl
theorem by90 : Tryd.prog.bytesOf 90 = 8 := by kernel_rfl
theorem c91 : Tryd.prog.cellsOf 91 = 1 := by kernel_rfl
theorem by91 : Tryd.prog.bytesOf 91 = 8 := by kernel_rfl
theorem c92 : Tryd.prog.cellsOf 92 = 1 := by kernel_rfl
theorem by92 : Tryd.prog.bytesOf 92 = 8 := by kernel_rfl
theorem c93 : Tryd.prog.cellsOf 93 = 1 := by kernel_rfl
theorem by93 : Tryd.prog.bytesOf 93 = 8 := by kernel_rfl
theorem c94 : Tryd.prog.cellsOf 94 = 1 := by kernel_rfl
theorem by94 : Tryd.prog.bytesOf 94 = 8 := by kernel_rfl
theorem c95 : Tryd.prog.cellsOf 95 = 1 := by kernel_rfl
theorem by95 : Tryd.prog.bytesOf 95 = 8 := by kernel_rfl
theorem c96 : Tryd.prog.cellsOf 96 = 1 := by kernel_rfl
theorem by96 : Tryd.prog.bytesOf 96 = 8 := by kernel_rfl
theorem c97 : Tryd.prog.cellsOf 97 = 1 := by kernel_rfl
theorem by97 : Tryd.prog.bytesOf 97 = 8 := by kernel_rfl
theorem c98 : Tryd.prog.cellsOf 98 = 1 := by kernel_rfl
theorem by98 : Tryd.prog.bytesOf 98 = 8 := by kernel_rfl
theorem c99 : Tryd.prog.cellsOf 99 = 1 := by kernel_rfl
theorem by99 : Tryd.prog.bytesOf 99 = 8 := by kernel_rfl
theorem c100 : Tryd.prog.cellsOf 100 = 1 := by kernel_rfl
theorem by100 : Tryd.prog.bytesOf 100 = 8 := by kernel_rfl
theorem c101 : Tryd.prog.cellsOf 101 = 1 := by kernel_rfl
theorem by101 : Tryd.prog.bytesOf 101 = 8 := by kernel_rfl
theorem c102 : Tryd.prog.cellsOf 102 = 1 := by kernel_rfl
theorem by102 : Tryd.prog.bytesOf 102 = 8 := by kernel_rfl
theorem c103 : Tryd.prog.cellsOf 103 = 1 := by kernel_rfl
theorem by103 : Tryd.prog.bytesOf 103 = 8 := by kernel_rfl
theorem c104 : Tryd.prog.cellsOf 104 = 1 := by kernel_rfl
theorem by104 : Tryd.prog.bytesOf 104 = 8 := by kernel_rfl
theorem c105 : Tryd.prog.cellsOf 105 = 1 := by kernel_rfl
theorem by105 : Tryd.prog.bytesOf 105 = 8 := by kernel_rfl
theorem c106 : Tryd.prog.cellsOf 106 = 1 := by kernel_rfl
theorem by106 : Tryd.prog.bytesOf 106 = 0 := by kernel_rfl
theorem c107 : Tryd.prog.cellsOf 107 = 1 := by kernel_rfl
theorem by107 : Tryd.prog.bytesOf 107 = 24 := by kernel_rfl
theorem c108 : Tryd.prog.cellsOf 108 = 1 := by kernel_rfl
theorem by108 : Tryd.prog.bytesOf 108 = 8 := by kernel_rfl
theorem c109 : Tryd.prog.cellsOf 109 = 1 := by kernel_rfl
theorem by109 : Tryd.prog.bytesOf 109 = 8 := by kernel_rfl
theorem c110 : Tryd.prog.cellsOf 110 = 1 := by kernel_rfl
theorem by110 : Tryd.prog.bytesOf 110 = 8 := by kernel_rfl
theorem c111 : Tryd.prog.cellsOf 111 = 1 := by kernel_rfl
theorem by111 : Tryd.prog.bytesOf 111 = 8 := by kernel_rfl
theorem c112 : Tryd.prog.cellsOf 112 = 1 := by kernel_rfl
theorem by112 : Tryd.prog.bytesOf 112 = 8 := by kernel_rfl
theorem c113 : Tryd.prog.cellsOf 113 = 1 := by kernel_rfl
theorem by113 : Tryd.prog.bytesOf 113 = 8 := by kernel_rfl
theorem c114 : Tryd.prog.cellsOf 114 = 1 := by kernel_rfl
theorem by114 : Tryd.prog.bytesOf 114 = 8 := by kernel_rfl
theorem c115 : Tryd.prog.cellsOf 115 = 1 := by kernel_rfl
theorem by115 : Tryd.prog.bytesOf 115 = 8 := by kernel_rfl
theorem c116 : Tryd.prog.cellsOf 116 = 1 := by kernel_rfl
theorem by116 : Tryd.prog.bytesOf 116 = 24 := by kernel_rfl
theorem c117 : Tryd.prog.cellsOf 117 = 1 := by kernel_rfl
theorem by117 : Tryd.prog.bytesOf 117 = 8 := by kernel_rfl
theorem c118 : Tryd.prog.cellsOf 118 = 1 := by kernel_rfl
theorem by118 : Tryd.prog.bytesOf 118 = 8 := by kernel_rfl
theorem c119 : Tryd.prog.cellsOf 119 = 1 := by kernel_rfl
theorem by119 : Tryd.prog.bytesOf 119 = 8 := by kernel_rfl
theorem c120 : Tryd.prog.cellsOf 120 = 1 := by kernel_rfl
theorem by120 : Tryd.prog.bytesOf 120 = 8 := by kernel_rfl
theorem c121 : Tryd.prog.cellsOf 121 = 1 := by kernel_rfl
theorem by121 : Tryd.prog.bytesOf 121 = 8 := by kernel_rfl
theorem c122 : Tryd.prog.cellsOf 122 = 1 := by kernel_rfl
theorem by122 : Tryd.prog.bytesOf 122 = 8 := by kernel_rfl
theorem c123 : Tryd.prog.cellsOf 123 = 1 := by kernel_rfl
theorem by123 : Tryd.prog.bytesOf 123 = 4 := by kernel_rfl
theorem c124 : Tryd.prog.cellsOf 124 = 8 := by kernel_rfl
theorem by124 : Tryd.prog.bytesOf 124 = 32 := by kernel_rfl
theorem c125 : Tryd.prog.cellsOf 125 = 64 := by kernel_rfl
theorem by125 : Tryd.prog.bytesOf 125 = 64 := by kernel_rfl
theorem c126 : Tryd.prog.cellsOf 126 = 1 := by kernel_rfl
theorem by126 : Tryd.prog.bytesOf 126 = 8 := by kernel_rfl
theorem c127 : Tryd.prog.cellsOf 127 = 74 := by kernel_rfl
theorem by127 : Tryd.prog.bytesOf 127 = 112 := by kernel_rfl
theorem c128 : Tryd.prog.cellsOf 128 = 74 := by kernel_rfl
theorem by128 : Tryd.prog.bytesOf 128 = 112 := by kernel_rfl
theorem c129 : Tryd.prog.cellsOf 129 = 1 := by kernel_rfl
theorem by129 : Tryd.prog.bytesOf 129 = 8 := by kernel_rfl
theorem c130 : Tryd.prog.cellsOf 130 = 1 := by kernel_rfl
theorem by130 : Tryd.prog.bytesOf 130 = 8 := by kernel_rfl
theorem c131 : Tryd.prog.cellsOf 131 = 1 := by kernel_rfl
theorem by131 : Tryd.prog.bytesOf 131 = 8 := by kernel_rfl
theorem c132 : Tryd.prog.cellsOf 132 = 1 := by kernel_rfl
theorem by132 : Tryd.prog.bytesOf 132 = 24 := by kernel_rfl
theorem c133 : Tryd.prog.cellsOf 133 = 1 := by kernel_rfl
theorem by133 : Tryd.prog.bytesOf 133 = 24 := by kernel_rfl
theorem c134 : Tryd.prog.cellsOf 134 = 1 := by kernel_rfl
theorem by134 : Tryd.prog.bytesOf 134 = 8 := by kernel_rfl
theorem c135 : Tryd.prog.cellsOf 135 = 1 := by kernel_rfl
theorem by135 : Tryd.prog.bytesOf 135 = 8 := by kernel_rfl
theorem c136 : Tryd.prog.cellsOf 136 = 1 := by kernel_rfl
theorem by136 : Tryd.prog.bytesOf 136 = 8 := by kernel_rfl
theorem c137 : Tryd.prog.cellsOf 137 = 1 := by kernel_rfl
theorem by137 : Tryd.prog.bytesOf 137 = 0 := by kernel_rfl
theorem c138 : Tryd.prog.cellsOf 138 = 1 := by kernel_rfl
theorem by138 : Tryd.prog.bytesOf 138 = 8 := by kernel_rfl
theorem c139 : Tryd.prog.cellsOf 139 = 1 := by kernel_rfl
theorem by139 : Tryd.prog.bytesOf 139 = 8 := by kernel_rfl
theorem c140 : Tryd.prog.cellsOf 140 = 1 := by kernel_rfl
theorem by140 : Tryd.prog.bytesOf 140 = 8 := by kernel_rfl
theorem c141 : Tryd.prog.cellsOf 141 = 64 := by kernel_rfl
theorem by141 : Tryd.prog.bytesOf 141 = 256 := by kernel_rfl
theorem c142 : Tryd.prog.cellsOf 142 = 1 := by kernel_rfl
theorem by142 : Tryd.prog.bytesOf 142 = 8 := by kernel_rfl
theorem c143 : Tryd.prog.cellsOf 143 = 1 := by kernel_rfl
theorem by143 : Tryd.prog.bytesOf 143 = 8 := by kernel_rfl
theorem c144 : Tryd.prog.cellsOf 144 = 1 := by kernel_rfl
theorem by144 : Tryd.prog.bytesOf 144 = 8 := by kernel_rfl
theorem c145 : Tryd.prog.cellsOf 145 = 1 := by kernel_rfl
theorem by145 : Tryd.prog.bytesOf 145 = 8 := by kernel_rfl
theorem c146 : Tryd.prog.cellsOf 146 = 1 := by kernel_rfl
theorem by146 : Tryd.prog.bytesOf 146 = 8 := by kernel_rfl
theorem c147 : Tryd.prog.cellsOf 147 = 1 := by kernel_rfl
theorem by147 : Tryd.prog.bytesOf 147 = 8 := by kernel_rfl
theorem c148 : Tryd.prog.cellsOf 148 = 1 := by kernel_rfl
theorem by148 : Tryd.prog.bytesOf 148 = 8 := by kernel_rfl
theorem c149 : Tryd.prog.cellsOf 149 = 1 := by kernel_rfl
theorem by149 : Tryd.prog.bytesOf 149 = 8 := by kernel_rfl
theorem c150 : Tryd.prog.cellsOf 150 = 1 := by kernel_rfl
theorem by150 : Tryd.prog.bytesOf 150 = 8 := by kernel_rfl
theorem c151 : Tryd.prog.cellsOf 151 = 1 := by kernel_rfl
theorem by151 : Tryd.prog.bytesOf 151 = 8 := by kernel_rfl
theorem c152 : Tryd.prog.cellsOf 152 = 4 := by kernel_rfl
theorem by152 : Tryd.prog.bytesOf 152 = 40 := by kernel_rfl
theorem c153 : Tryd.prog.cellsOf 153 = 4 := by kernel_rfl
theorem by153 : Tryd.prog.bytesOf 153 = 40 := by kernel_rfl
theorem c154 : Tryd.prog.cellsOf 154 = 0 := by kernel_rfl
theorem by154 : Tryd.prog.bytesOf 154 = 0 := by kernel_rfl
theorem c155 : Tryd.prog.cellsOf 155 = 0 := by kernel_rfl
theorem by155 : Tryd.prog.bytesOf 155 = 0 := by kernel_rfl
theorem c156 : Tryd.prog.cellsOf 156 = 0 := by kernel_rfl
theorem by156 : Tryd.prog.bytesOf 156 = 0 := by kernel_rfl
theorem c157 : Tryd.prog.cellsOf 157 = 1 := by kernel_rfl
theorem by157 : Tryd.prog.bytesOf 157 = 1 := by kernel_rfl
theorem c158 : Tryd.prog.cellsOf 158 = 1 := by kernel_rfl
theorem by158 : Tryd.prog.bytesOf 158 = 1 := by kernel_rfl
theorem c159 : Tryd.prog.cellsOf 159 = 1 := by kernel_rfl
theorem by159 : Tryd.prog.bytesOf 159 = 8 := by kernel_rfl
theorem c160 : Tryd.prog.cellsOf 160 = 1 := by kernel_rfl
theorem by160 : Tryd.prog.bytesOf 160 = 8 := by kernel_rfl
theorem c161 : Tryd.prog.cellsOf 161 = 1 := by kernel_rfl
theorem by161 : Tryd.prog.bytesOf 161 = 4 := by kernel_rfl
theorem c162 : Tryd.prog.cellsOf 162 = 1 := by kernel_rfl
theorem by162 : Tryd.prog.bytesOf 162 = 4 := by kernel_rfl
theorem c163 : Tryd.prog.cellsOf 163 = 11 := by kernel_rfl
theorem by163 : Tryd.prog.bytesOf 163 = 48 := by kernel_rfl
theorem c164 : Tryd.prog.cellsOf 164 = 11 := by kernel_rfl
theorem by164 : Tryd.prog.bytesOf 164 = 48 := by kernel_rfl
theorem c165 : Tryd.prog.cellsOf 165 = 1 := by kernel_rfl
theorem by165 : Tryd.prog.bytesOf 165 = 8 := by kernel_rfl
theorem z1 : zeroOf Tryd.prog 1 = some (.nilFunc) := by kernel_rfl
theorem z2 : zeroOf Tryd.prog 2 = some (.int .i64 0) := by kernel_rfl
theorem z3 : zeroOf Tryd.prog 3 = some (.int .i64 0) := by kernel_rfl
theorem z4 : zeroOf Tryd.prog 4 = some (.bool false) := by kernel_rfl
theorem z5 : zeroOf Tryd.prog 5 = some (.int .u8 0) := by kernel_rfl
theorem z6 : zeroOf Tryd.prog 6 = some (.int .u8 0) := by kernel_rfl
theorem z7 : zeroOf Tryd.prog 7 = some (.agg ([.int .i64 0, .int .i64 0] ++ [.bool false] ++ [.int .u8 0] : List Value).toArray) := by kernel_rfl
theorem z8 : zeroOf Tryd.prog 8 = some (.agg ([.int .i64 0, .int .i64 0] ++ [.bool false] ++ [.int .u8 0] : List Value).toArray) := by kernel_rfl
theorem z9 : zeroOf Tryd.prog 9 = some (.string ByteArray.empty) := by kernel_rfl
theorem z10 : zeroOf Tryd.prog 10 = some (.string ByteArray.empty) := by kernel_rfl
theorem z11 : zeroOf Tryd.prog 11 = some (.string ByteArray.empty) := by kernel_rfl
theorem z12 : zeroOf Tryd.prog 12 = some (.int .u64 0) := by kernel_rfl
theorem z13 : zeroOf Tryd.prog 13 = some (.agg ([.string ByteArray.empty] ++ [.int .u64 0] : List Value).toArray) := by kernel_rfl
theorem z14 : zeroOf Tryd.prog 14 = some (.agg ([.string ByteArray.empty] ++ [.int .u64 0] : List Value).toArray) := by kernel_rfl
theorem z15 : zeroOf Tryd.prog 15 = some (.pointer none) := by kernel_rfl
theorem z16 : zeroOf Tryd.prog 16 = some (.pointer none) := by kernel_rfl
theorem z17 : zeroOf Tryd.prog 17 = some (.pointer none) := by kernel_rfl
theorem z18 : zeroOf Tryd.prog 18 = some (.agg ([.pointer none] : List Value).toArray) := by kernel_rfl
theorem z19 : zeroOf Tryd.prog 19 = some (.agg ([.pointer none] : List Value).toArray) := by kernel_rfl
theorem z20 : zeroOf Tryd.prog 20 = some (.nilIface) := by kernel_rfl
theorem z21 : zeroOf Tryd.prog 21 = some (.int .i32 0) := by kernel_rfl
theorem z22 : zeroOf Tryd.prog 22 = some (.slice none 0 0) := by kernel_rfl
theorem z23 : zeroOf Tryd.prog 23 = some (.slice none 0 0) := by kernel_rfl
theorem z24 : zeroOf Tryd.prog 24 = some (.nilFunc) := by kernel_rfl
theorem z25 : zeroOf Tryd.prog 25 = some (.pointer none) := by kernel_rfl
theorem z26 : zeroOf Tryd.prog 26 = some (.pointer none) := by kernel_rfl
theorem z28 : zeroOf Tryd.prog 28 = some (.nilFunc) := by kernel_rfl
theorem z29 : zeroOf Tryd.prog 29 = some (.agg ([.int .u8 0] ++ [.slice none 0 0, .slice none 0 0] : List Value).toArray) := by kernel_rfl
theorem z30 : zeroOf Tryd.prog 30 = some (.agg ([.int .u8 0] ++ [.slice none 0 0, .slice none 0 0] : List Value).toArray) := by kernel_rfl
theorem z31 : zeroOf Tryd.prog 31 = some (.nilFunc) := by kernel_rfl
theorem z32 : zeroOf Tryd.prog 32 = some (.slice none 0 0) := by kernel_rfl
theorem z33 : zeroOf Tryd.prog 33 = some (.agg ([.slice none 0 0] : List Value).toArray) := by kernel_rfl
theorem z34 : zeroOf Tryd.prog 34 = some (.agg ([.slice none 0 0] : List Value).toArray) := by kernel_rfl
theorem z35 : zeroOf Tryd.prog 35 = some (.agg (List.replicate 32 (.int .u8 0) : List Value).toArray) := by kernel_rfl
theorem z36 : zeroOf Tryd.prog 36 = some (.agg (List.replicate 32 (.int .u8 0) : List Value).toArray) := by kernel_rfl
theorem z37 : zeroOf Tryd.prog 37 = some (.nilFunc) := by kernel_rfl
theorem z38 : zeroOf Tryd.prog 38 = some (.nilFunc) := by kernel_rfl
theorem z39 : zeroOf Tryd.prog 39 = some (.int .i64 0) := by kernel_rfl
theorem z41 : zeroOf Tryd.prog 41 = some (.nilFunc) := by kernel_rfl
theorem z43 : zeroOf Tryd.prog 43 = some (.nilFunc) := by kernel_rfl
theorem z44 : zeroOf Tryd.prog 44 = some (.nilFunc) := by kernel_rfl
theorem z45 : zeroOf Tryd.prog 45 = some (.nilFunc) := by kernel_rfl
theorem z46 : zeroOf Tryd.prog 46 = some (.nilFunc) := by kernel_rfl
theorem z48 : zeroOf Tryd.prog 48 = some (.nilFunc) := by kernel_rfl
theorem z49 : zeroOf Tryd.prog 49 = some (.agg ([.slice none 0 0, .slice none 0 0] : List Value).toArray) := by kernel_rfl
theorem z50 : zeroOf Tryd.prog 50 = some (.agg ([.slice none 0 0, .slice none 0 0] : List Value).toArray) := by kernel_rfl
theorem z51 : zeroOf Tryd.prog 51 = some (.nilFunc) := by kernel_rfl
theorem z53 : zeroOf Tryd.prog 53 = some (.nilFunc) := by kernel_rfl
theorem z54 : zeroOf Tryd.prog 54 = some (.nilFunc) := by kernel_rfl
theorem z55 : zeroOf Tryd.prog 55 = some (.nilFunc) := by kernel_rfl
theorem z56 : zeroOf Tryd.prog 56 = some (.nilFunc) := by kernel_rfl
theorem z57 : zeroOf Tryd.prog 57 = some (.nilFunc) := by kernel_rfl
theorem z58 : zeroOf Tryd.prog 58 = some (.nilIface) := by kernel_rfl
theorem z59 : zeroOf Tryd.prog 59 = some (.nilIface) := by kernel_rfl
theorem z60 : zeroOf Tryd.prog 60 = some (.agg ([.int .i64 0] ++ [.nilIface] : List Value).toArray) := by kernel_rfl
theorem z61 : zeroOf Tryd.prog 61 = some (.agg ([.int .i64 0] ++ [.nilIface] : List Value).toArray) := by kernel_rfl
theorem z63 : zeroOf Tryd.prog 63 = some (.nilFunc) := by kernel_rfl
theorem z64 : zeroOf Tryd.prog 64 = some (.nilFunc) := by kernel_rfl
theorem z65 : zeroOf Tryd.prog 65 = some (.pointer none) := by kernel_rfl
theorem z67 : zeroOf Tryd.prog 67 = some (.nilFunc) := by kernel_rfl
theorem z68 : zeroOf Tryd.prog 68 = some (.agg (List.replicate 32 (.int .u8 0) ++ [.slice none 0 0] ++ List.replicate 32 (.int .u8 0) : List Value).toArray) := by kernel_rfl
theorem z69 : zeroOf Tryd.prog 69 = some (.agg (List.replicate 32 (.int .u8 0) ++ [.slice none 0 0] ++ List.replicate 32 (.int .u8 0) : List Value).toArray) := by kernel_rfl
theorem z70 : zeroOf Tryd.prog 70 = some (.nilFunc) := by kernel_rfl
theorem z71 : zeroOf Tryd.prog 71 = some (.pointer none) := by kernel_rfl
theorem z72 : zeroOf Tryd.prog 72 = some (.nilFunc) := by kernel_rfl
theorem z73 : zeroOf Tryd.prog 73 = some (.nilFunc) := by kernel_rfl
theorem z74 : zeroOf Tryd.prog 74 = some (.int .u16 0) := by kernel_rfl
theorem z75 : zeroOf Tryd.prog 75 = some (.slice none 0 0) := by kernel_rfl
theorem z76 : zeroOf Tryd.prog 76 = some (.agg ([.int .u16 0] ++ [.slice none 0 0] ++ List.replicate 32 (.int .u8 0) ++ [.int .i64 0] : List Value).toArray) := by kernel_rfl
theorem z77 : zeroOf Tryd.prog 77 = some (.agg ([.int .u16 0] ++ [.slice none 0 0] ++ List.replicate 32 (.int .u8 0) ++ [.int .i64 0] : List Value).toArray) := by kernel_rfl
theorem z78 : zeroOf Tryd.prog 78 = some (.nilFunc) := by kernel_rfl
theorem z79 : zeroOf Tryd.prog 79 = some (.nilFunc) := by kernel_rfl
theorem z80 : zeroOf Tryd.prog 80 = some (.nilFunc) := by kernel_rfl
theorem z81 : zeroOf Tryd.prog 81 = some (.nilFunc) := by kernel_rfl
theorem z83 : zeroOf Tryd.prog 83 = some (.nilFunc) := by kernel_rfl
theorem z84 : zeroOf Tryd.prog 84 = some (.nilFunc) := by kernel_rfl
theorem z85 : zeroOf Tryd.prog 85 = some (.nilFunc) := by kernel_rfl
theorem z87 : zeroOf Tryd.prog 87 = some (.nilFunc) := by kernel_rfl
theorem z88 : zeroOf Tryd.prog 88 = some (.nilFunc) := by kernel_rfl
theorem z89 : zeroOf Tryd.prog 89 = some (.nilFunc) := by kernel_rfl
theorem z90 : zeroOf Tryd.prog 90 = some (.nilFunc) := by kernel_rfl
theorem z91 : zeroOf Tryd.prog 91 = some (.nilFunc) := by kernel_rfl
theorem z92 : zeroOf Tryd.prog 92 = some (.nilFunc) := by kernel_rfl
theorem z93 : zeroOf Tryd.prog 93 = some (.nilFunc) := by kernel_rfl
theorem z94 : zeroOf Tryd.prog 94 = some (.nilFunc) := by kernel_rfl
theorem z95 : zeroOf Tryd.prog 95 = some (.nilFunc) := by kernel_rfl
theorem z96 : zeroOf Tryd.prog 96 = some (.nilFunc) := by kernel_rfl
theorem z97 : zeroOf Tryd.prog 97 = some (.nilFunc) := by kernel_rfl
theorem z98 : zeroOf Tryd.prog 98 = some (.nilFunc) := by kernel_rfl
theorem z99 : zeroOf Tryd.prog 99 = some (.nilFunc) := by kernel_rfl
theorem z100 : zeroOf Tryd.prog 100 = some (.nilFunc) := by kernel_rfl
theorem z101 : zeroOf Tryd.prog 101 = some (.nilFunc) := by kernel_rfl
theorem z102 : zeroOf Tryd.prog 102 = some (.nilFunc) := by kernel_rfl
theorem z103 : zeroOf Tryd.prog 103 = some (.nilFunc) := by kernel_rfl
theorem z104 : zeroOf Tryd.prog 104 = some (.nilFunc) := by kernel_rfl
theorem z105 : zeroOf Tryd.prog 105 = some (.nilFunc) := by kernel_rfl
theorem z107 : zeroOf Tryd.prog 107 = some (.slice none 0 0) := by kernel_rfl
theorem z108 : zeroOf Tryd.prog 108 = some (.pointer none) := by kernel_rfl
theorem z109 : zeroOf Tryd.prog 109 = some (.nilFunc) := by kernel_rfl
theorem z110 : zeroOf Tryd.prog 110 = some (.nilFunc) := by kernel_rfl
theorem z111 : zeroOf Tryd.prog 111 = some (.nilFunc) := by kernel_rfl
theorem z112 : zeroOf Tryd.prog 112 = some (.nilFunc) := by kernel_rfl
theorem z113 : zeroOf Tryd.prog 113 = some (.int .u64 0) := by kernel_rfl
theorem z114 : zeroOf Tryd.prog 114 = some (.nilFunc) := by kernel_rfl
theorem z115 : zeroOf Tryd.prog 115 = some (.nilFunc) := by kernel_rfl
theorem z116 : zeroOf Tryd.prog 116 = some (.slice none 0 0) := by kernel_rfl
theorem z117 : zeroOf Tryd.prog 117 = some (.nilFunc) := by kernel_rfl
theorem z118 : zeroOf Tryd.prog 118 = some (.nilFunc) := by kernel_rfl
theorem z119 : zeroOf Tryd.prog 119 = some (.nilFunc) := by kernel_rfl
theorem z120 : zeroOf Tryd.prog 120 = some (.nilFunc) := by kernel_rfl
theorem z121 : zeroOf Tryd.prog 121 = some (.nilFunc) := by kernel_rfl
theorem z122 : zeroOf Tryd.prog 122 = some (.nilFunc) := by kernel_rfl
theorem z123 : zeroOf Tryd.prog 123 = some (.int .u32 0) := by kernel_rfl
theorem z124 : zeroOf Tryd.prog 124 = some (.agg (List.replicate 8 (.int .u32 0) : List Value).toArray) := by kernel_rfl
theorem z125 : zeroOf Tryd.prog 125 = some (.agg (List.replicate 64 (.int .u8 0) : List Value).toArray) := by kernel_rfl
theorem z126 : zeroOf Tryd.prog 126 = some (.int .u64 0) := by kernel_rfl
theorem z127 : zeroOf Tryd.prog 127 = some (.agg (List.replicate 8 (.int .u32 0) ++ [.bool false] ++ List.replicate 64 (.int .u8 0) ++ [.int .u64 0] : List Value).toArray) := by kernel_rfl
theorem z128 : zeroOf Tryd.prog 128 = some (.agg (List.replicate 8 (.int .u32 0) ++ [.bool false] ++ List.replicate 64 (.int .u8 0) ++ [.int .u64 0] : List Value).toArray) := by kernel_rfl
theorem z129 : zeroOf Tryd.prog 129 = some (.nilFunc) := by kernel_rfl
theorem z130 : zeroOf Tryd.prog 130 = some (.nilFunc) := by kernel_rfl
theorem z131 : zeroOf Tryd.prog 131 = some (.nilFunc) := by kernel_rfl
theorem z132 : zeroOf Tryd.prog 132 = some (.agg ([.slice none 0 0] : List Value).toArray) := by kernel_rfl
theorem z133 : zeroOf Tryd.prog 133 = some (.agg ([.slice none 0 0] : List Value).toArray) := by kernel_rfl
theorem z134 : zeroOf Tryd.prog 134 = some (.nilFunc) := by kernel_rfl
theorem z135 : zeroOf Tryd.prog 135 = some (.nilFunc) := by kernel_rfl
theorem z136 : zeroOf Tryd.prog 136 = some (.nilFunc) := by kernel_rfl
theorem z138 : zeroOf Tryd.prog 138 = some (.nilFunc) := by kernel_rfl
theorem z139 : zeroOf Tryd.prog 139 = some (.nilFunc) := by kernel_rfl
theorem z140 : zeroOf Tryd.prog 140 = some (.nilFunc) := by kernel_rfl
theorem z141 : zeroOf Tryd.prog 141 = some (.agg (List.replicate 64 (.int .u32 0) : List Value).toArray) := by kernel_rfl
theorem z142 : zeroOf Tryd.prog 142 = some (.nilFunc) := by kernel_rfl
theorem z143 : zeroOf Tryd.prog 143 = some (.pointer none) := by kernel_rfl
theorem z144 : zeroOf Tryd.prog 144 = some (.nilFunc) := by kernel_rfl
theorem z145 : zeroOf Tryd.prog 145 = some (.nilFunc) := by kernel_rfl
theorem z146 : zeroOf Tryd.prog 146 = some (.nilFunc) := by kernel_rfl
theorem z147 : zeroOf Tryd.prog 147 = some (.nilFunc) := by kernel_rfl
theorem z148 : zeroOf Tryd.prog 148 = some (.nilFunc) := by kernel_rfl
theorem z149 : zeroOf Tryd.prog 149 = some (.nilFunc) := by kernel_rfl
theorem z150 : zeroOf Tryd.prog 150 = some (.nilFunc) := by kernel_rfl
theorem z151 : zeroOf Tryd.prog 151 = some (.nilFunc) := by kernel_rfl
theorem z152 : zeroOf Tryd.prog 152 = some (.agg ([.pointer none, .pointer none, .pointer none] ++ [.string ByteArray.empty] : List Value).toArray) := by kernel_rfl
theorem z153 : zeroOf Tryd.prog 153 = some (.agg ([.pointer none, .pointer none, .pointer none] ++ [.string ByteArray.empty] : List Value).toArray) := by kernel_rfl
theorem z154 : zeroOf Tryd.prog 154 = some (.agg ([] : List Value).toArray) := by kernel_rfl
theorem z155 : zeroOf Tryd.prog 155 = some (.agg ([] : List Value).toArray) := by kernel_rfl
theorem z156 : zeroOf Tryd.prog 156 = some (.agg ([] : List Value).toArray) := by kernel_rfl
theorem z157 : zeroOf Tryd.prog 157 = some (.int .u8 0) := by kernel_rfl
theorem z158 : zeroOf Tryd.prog 158 = some (.int .u8 0) := by kernel_rfl
theorem z159 : zeroOf Tryd.prog 159 = some (.nilFunc) := by kernel_rfl
theorem z160 : zeroOf Tryd.prog 160 = some (.pointer none) := by kernel_rfl
theorem z161 : zeroOf Tryd.prog 161 = some (.int .i32 0) := by kernel_rfl
theorem z162 : zeroOf Tryd.prog 162 = some (.int .i32 0) := by kernel_rfl
theorem z163 : zeroOf Tryd.prog 163 = some (.agg ([.int .u64 0, .int .u64 0] ++ [.int .u32 0] ++ List.replicate 4 (.int .u8 0) ++ [.nilFunc] ++ [.pointer none] ++ [.int .i32 0, .int .i32 0] : List Value).toArray) := by kernel_rfl
theorem z164 : zeroOf Tryd.prog 164 = some (.agg ([.int .u64 0, .int .u64 0] ++ [.int .u32 0] ++ List.replicate 4 (.int .u8 0) ++ [.nilFunc] ++ [.pointer none] ++ [.int .i32 0, .int .i32 0] : List Value).toArray) := by kernel_rfl
theorem z165 : zeroOf Tryd.prog 165 = some (.pointer none) := by kernel_rfl
theorem mixed : Tryd.prog.follows .mixedOrders = true := by kernel_rfl
/-! The rules of the walks, bundled. -/
set_option maxRecDepth 100000 in
theorem VD : type_of% (And.intro (@h_nil) (And.intro (@h_cons) (And.intro (@h_two) (And.intro (@h_load) (And.intro (@h_len) (And.intro (@h_store) (And.intro (@h_alloc) (And.intro (@h_box) (And.intro (@h_bld) (And.intro (@h_call) (And.intro (@h_app) (And.intro (@h_copy) (And.intro (@h_make) (And.intro (@h_move) (And.intro (@h_assign) (And.intro (@h_pick) (And.intro (@h_bin) (And.intro (@h_un) (And.intro (@h_conv) (And.intro (@h_nilC) (And.intro (@h_fldA) (And.intro (@h_fld) (And.intro (@h_idxA) (And.intro (@h_idx) (And.intro (@h_sl) (And.intro (@h_ext) (And.intro (@h_mkI) (And.intro (@h_mkF) (And.intro (@h_bv) (And.intro (@p_bv) (And.intro (@o_bv) (And.intro (@q_bv) (And.intro (@h_asr) (And.intro (@v_skip) (And.intro (@v_region) (And.intro (@v_draw) (And.intro (@v_seq) (And.intro (@v_cond) (And.intro (@v_block) (And.intro (@v_loop) (And.intro (@v_exit) (And.intro (@v_ret) (And.intro (@s_normal) (And.intro (@s_exit) (And.intro (@s_ret) (And.intro (@b_normal) (And.intro (@b_exit_eq) (And.intro (@b_exit_ne) (And.intro (@b_ret) (And.intro (@k_normal) (And.intro (@k_hit) (And.intro (@k_miss) (And.intro (@k_ret) (And.intro (@ops_nil) (And.intro (@ops_cons) (And.intro (@ops_grd) (And.intro (@q_nil) (And.intro (@q_cons) (And.intro (@q_grd) (And.intro (@p_move) (And.intro (@o_move) (And.intro (@q_move) (And.intro (@p_assign) (And.intro (@o_assign) (And.intro (@q_assign) (And.intro (@p_pick) (And.intro (@o_pick) (And.intro (@q_pick) (And.intro (@p_bin) (And.intro (@o_bin) (And.intro (@q_bin) (And.intro (@p_un) (And.intro (@o_un) (And.intro (@q_un) (And.intro (@p_conv) (And.intro (@o_conv) (And.intro (@q_conv) (And.intro (@p_nilC) (And.intro (@o_nilC) (And.intro (@q_nilC) (And.intro (@p_fldA) (And.intro (@o_fldA) (And.intro (@q_fldA) (And.intro (@p_fld) (And.intro (@o_fld) (And.intro (@q_fld) (And.intro (@p_idxA) (And.intro (@o_idxA) (And.intro (@q_idxA) (And.intro (@p_idx) (And.intro (@o_idx) (And.intro (@q_idx) (And.intro (@p_sl) (And.intro (@o_sl) (And.intro (@p_sl3) (And.intro (@o_sl3) (And.intro (@q_sl) (And.intro (@p_ext) (And.intro (@o_ext) (And.intro (@q_ext) (And.intro (@p_mkI) (And.intro (@o_mkI) (And.intro (@q_mkI) (And.intro (@p_mkF) (And.intro (@o_mkF) (And.intro (@q_mkF) (And.intro (@p_asr) (And.intro (@o_asr) (And.intro (@q_asr) (And.intro (@o_load) (And.intro (@o_store) (And.intro (@o_alloc) (And.intro (@o_box) (And.intro (@o_bld) (And.intro (@o_call) (And.intro (@o_len) (And.intro (@o_app) (And.intro (@o_cap) (And.intro (@v_rangeFunc) (And.intro (@o_copy) (And.intro (@o_clear) (And.intro (@o_make) (And.intro (@o_min) (And.intro (@o_max) (And.intro (@q_load) (And.intro (@q_call) (And.intro (@q_len) (And.intro (@e_tmp) (And.intro (@e_const) (And.intro (@e_func) (And.intro (@e_glob) (And.intro (@upd_eq) (And.intro (@upd_ne) (And.intro (@uO_some) (@uO_none))))))))))))))))))))))))))))))))))))))))))))))))))))))))))))))))))))))))))))))))))))))))))))))))))))))))))))))))))))))))))))))))))))))) := And.intro (@h_nil) (And.intro (@h_cons) (And.intro (@h_two) (And.intro (@h_load) (And.intro (@h_len) (And.intro (@h_store) (And.intro (@h_alloc) (And.intro (@h_box) (And.intro (@h_bld) (And.intro (@h_call) (And.intro (@h_app) (And.intro (@h_copy) (And.intro (@h_make) (And.intro (@h_move) (And.intro (@h_assign) (And.intro (@h_pick) (And.intro (@h_bin) (And.intro (@h_un) (And.intro (@h_conv) (And.intro (@h_nilC) (And.intro (@h_fldA) (And.intro (@h_fld) (And.intro (@h_idxA) (And.intro (@h_idx) (And.intro (@h_sl) (And.intro (@h_ext) (And.intro (@h_mkI) (And.intro (@h_mkF) (And.intro (@h_bv) (And.intro (@p_bv) (And.intro (@o_bv) (And.intro (@q_bv) (And.intro (@h_asr) (And.intro (@v_skip) (And.intro (@v_region) (And.intro (@v_draw) (And.intro (@v_seq) (And.intro (@v_cond) (And.intro (@v_block) (And.intro (@v_loop) (And.intro (@v_exit) (And.intro (@v_ret) (And.intro (@s_normal) (And.intro (@s_exit) (And.intro (@s_ret) (And.intro (@b_normal) (And.intro (@b_exit_eq) (And.intro (@b_exit_ne) (And.intro (@b_ret) (And.intro (@k_normal) (And.intro (@k_hit) (And.intro (@k_miss) (And.intro (@k_ret) (And.intro (@ops_nil) (And.intro (@ops_cons) (And.intro (@ops_grd) (And.intro (@q_nil) (And.intro (@q_cons) (And.intro (@q_grd) (And.intro (@p_move) (And.intro (@o_move) (And.intro (@q_move) (And.intro (@p_assign) (And.intro (@o_assign) (And.intro (@q_assign) (And.intro (@p_pick) (And.intro (@o_pick) (And.intro (@q_pick) (And.intro (@p_bin) (And.intro (@o_bin) (And.intro (@q_bin) (And.intro (@p_un) (And.intro (@o_un) (And.intro (@q_un) (And.intro (@p_conv) (And.intro (@o_conv) (And.intro (@q_conv) (And.intro (@p_nilC) (And.intro (@o_nilC) (And.intro (@q_nilC) (And.intro (@p_fldA) (And.intro (@o_fldA) (And.intro (@q_fldA) (And.intro (@p_fld) (And.intro (@o_fld) (And.intro (@q_fld) (And.intro (@p_idxA) (And.intro (@o_idxA) (And.intro (@q_idxA) (And.intro (@p_idx) (And.intro (@o_idx) (And.intro (@q_idx) (And.intro (@p_sl) (And.intro (@o_sl) (And.intro (@p_sl3) (And.intro (@o_sl3) (And.intro (@q_sl) (And.intro (@p_ext) (And.intro (@o_ext) (And.intro (@q_ext) (And.intro (@p_mkI) (And.intro (@o_mkI) (And.intro (@q_mkI) (And.intro (@p_mkF) (And.intro (@o_mkF) (And.intro (@q_mkF) (And.intro (@p_asr) (And.intro (@o_asr) (And.intro (@q_asr) (And.intro (@o_load) (And.intro (@o_store) (And.intro (@o_alloc) (And.intro (@o_box) (And.intro (@o_bld) (And.intro (@o_call) (And.intro (@o_len) (And.intro (@o_app) (And.intro (@o_cap) (And.intro (@v_rangeFunc) (And.intro (@o_copy) (And.intro (@o_clear) (And.intro (@o_make) (And.intro (@o_min) (And.intro (@o_max) (And.intro (@q_load) (And.intro (@q_call) (And.intro (@q_len) (And.intro (@e_tmp) (And.intro (@e_const) (And.intro (@e_func) (And.intro (@e_glob) (And.intro (@upd_eq) (And.intro (@upd_ne) (And.intro (@uO_some) (@uO_none))))))))))))))))))))))))))))))))))))))))))))))))))))))))))))))))))))))))))))))))))))))))))))))))))))))))))))))))))))))))))))))))))))))
set_option maxRecDepth 100000 in
theorem VJ : type_of% (And.intro (@h_nil) (And.intro (@h_cons) (And.intro (@h_two) (And.intro (@h_load) (And.intro (@h_len) (And.intro (@h_store) (And.intro (@h_alloc) (And.intro (@h_box) (And.intro (@h_bld) (And.intro (@h_call) (And.intro (@h_app) (And.intro (@h_copy) (And.intro (@h_make) (And.intro (@h_move) (And.intro (@h_assign) (And.intro (@h_pick) (And.intro (@h_bin) (And.intro (@h_un) (And.intro (@h_conv) (And.intro (@h_nilC) (And.intro (@h_fldA) (And.intro (@h_fld) (And.intro (@h_idxA) (And.intro (@h_idx) (And.intro (@h_sl) (And.intro (@h_ext) (And.intro (@h_mkI) (And.intro (@h_mkF) (And.intro (@h_bv) (And.intro (@p_bv) (And.intro (@o_bv) (And.intro (@q_bv) (And.intro (@h_asr) (And.intro (@v_skip) (And.intro (@v_region) (And.intro (@v_draw) (And.intro (@v_seq) (And.intro (@v_block) (And.intro (@v_loop) (And.intro (@v_exit) (And.intro (@v_ret) (And.intro (@s_normal) (And.intro (@s_exit) (And.intro (@s_ret) (And.intro (@b_normal) (And.intro (@b_exit_eq) (And.intro (@b_exit_ne) (And.intro (@b_ret) (And.intro (@k_normal) (And.intro (@k_hit) (And.intro (@k_miss) (And.intro (@k_ret) (And.intro (@ops_nil) (And.intro (@ops_cons) (And.intro (@ops_grd) (And.intro (@q_nil) (And.intro (@q_cons) (And.intro (@q_grd) (And.intro (@p_move) (And.intro (@o_move) (And.intro (@q_move) (And.intro (@p_assign) (And.intro (@o_assign) (And.intro (@q_assign) (And.intro (@p_pick) (And.intro (@o_pick) (And.intro (@q_pick) (And.intro (@p_bin) (And.intro (@o_bin) (And.intro (@q_bin) (And.intro (@p_un) (And.intro (@o_un) (And.intro (@q_un) (And.intro (@p_conv) (And.intro (@o_conv) (And.intro (@q_conv) (And.intro (@p_nilC) (And.intro (@o_nilC) (And.intro (@q_nilC) (And.intro (@p_fldA) (And.intro (@o_fldA) (And.intro (@q_fldA) (And.intro (@p_fld) (And.intro (@o_fld) (And.intro (@q_fld) (And.intro (@p_idxA) (And.intro (@o_idxA) (And.intro (@q_idxA) (And.intro (@p_idx) (And.intro (@o_idx) (And.intro (@q_idx) (And.intro (@p_sl) (And.intro (@o_sl) (And.intro (@p_sl3) (And.intro (@o_sl3) (And.intro (@q_sl) (And.intro (@p_ext) (And.intro (@o_ext) (And.intro (@q_ext) (And.intro (@p_mkI) (And.intro (@o_mkI) (And.intro (@q_mkI) (And.intro (@p_mkF) (And.intro (@o_mkF) (And.intro (@q_mkF) (And.intro (@p_asr) (And.intro (@o_asr) (And.intro (@q_asr) (And.intro (@o_load) (And.intro (@o_store) (And.intro (@o_alloc) (And.intro (@o_box) (And.intro (@o_bld) (And.intro (@o_call) (And.intro (@o_len) (And.intro (@o_app) (And.intro (@o_cap) (And.intro (@v_rangeFunc) (And.intro (@o_copy) (And.intro (@o_clear) (And.intro (@o_make) (And.intro (@o_min) (And.intro (@o_max) (And.intro (@q_load) (And.intro (@q_call) (And.intro (@q_len) (And.intro (@e_tmp) (And.intro (@e_const) (And.intro (@e_func) (And.intro (@e_glob) (And.intro (@upd_eq) (And.intro (@upd_ne) (And.intro (@uO_some) (@uO_none)))))))))))))))))))))))))))))))))))))))))))))))))))))))))))))))))))))))))))))))))))))))))))))))))))))))))))))))))))))))))))))))))))))) := And.intro (@h_nil) (And.intro (@h_cons) (And.intro (@h_two) (And.intro (@h_load) (And.intro (@h_len) (And.intro (@h_store) (And.intro (@h_alloc) (And.intro (@h_box) (And.intro (@h_bld) (And.intro (@h_call) (And.intro (@h_app) (And.intro (@h_copy) (And.intro (@h_make) (And.intro (@h_move) (And.intro (@h_assign) (And.intro (@h_pick) (And.intro (@h_bin) (And.intro (@h_un) (And.intro (@h_conv) (And.intro (@h_nilC) (And.intro (@h_fldA) (And.intro (@h_fld) (And.intro (@h_idxA) (And.intro (@h_idx) (And.intro (@h_sl) (And.intro (@h_ext) (And.intro (@h_mkI) (And.intro (@h_mkF) (And.intro (@h_bv) (And.intro (@p_bv) (And.intro (@o_bv) (And.intro (@q_bv) (And.intro (@h_asr) (And.intro (@v_skip) (And.intro (@v_region) (And.intro (@v_draw) (And.intro (@v_seq) (And.intro (@v_block) (And.intro (@v_loop) (And.intro (@v_exit) (And.intro (@v_ret) (And.intro (@s_normal) (And.intro (@s_exit) (And.intro (@s_ret) (And.intro (@b_normal) (And.intro (@b_exit_eq) (And.intro (@b_exit_ne) (And.intro (@b_ret) (And.intro (@k_normal) (And.intro (@k_hit) (And.intro (@k_miss) (And.intro (@k_ret) (And.intro (@ops_nil) (And.intro (@ops_cons) (And.intro (@ops_grd) (And.intro (@q_nil) (And.intro (@q_cons) (And.intro (@q_grd) (And.intro (@p_move) (And.intro (@o_move) (And.intro (@q_move) (And.intro (@p_assign) (And.intro (@o_assign) (And.intro (@q_assign) (And.intro (@p_pick) (And.intro (@o_pick) (And.intro (@q_pick) (And.intro (@p_bin) (And.intro (@o_bin) (And.intro (@q_bin) (And.intro (@p_un) (And.intro (@o_un) (And.intro (@q_un) (And.intro (@p_conv) (And.intro (@o_conv) (And.intro (@q_conv) (And.intro (@p_nilC) (And.intro (@o_nilC) (And.intro (@q_nilC) (And.intro (@p_fldA) (And.intro (@o_fldA) (And.intro (@q_fldA) (And.intro (@p_fld) (And.intro (@o_fld) (And.intro (@q_fld) (And.intro (@p_idxA) (And.intro (@o_idxA) (And.intro (@q_idxA) (And.intro (@p_idx) (And.intro (@o_idx) (And.intro (@q_idx) (And.intro (@p_sl) (And.intro (@o_sl) (And.intro (@p_sl3) (And.intro (@o_sl3) (And.intro (@q_sl) (And.intro (@p_ext) (And.intro (@o_ext) (And.intro (@q_ext) (And.intro (@p_mkI) (And.intro (@o_mkI) (And.intro (@q_mkI) (And.intro (@p_mkF) (And.intro (@o_mkF) (And.intro (@q_mkF) (And.intro (@p_asr) (And.intro (@o_asr) (And.intro (@q_asr) (And.intro (@o_load) (And.intro (@o_store) (And.intro (@o_alloc) (And.intro (@o_box) (And.intro (@o_bld) (And.intro (@o_call) (And.intro (@o_len) (And.intro (@o_app) (And.intro (@o_cap) (And.intro (@v_rangeFunc) (And.intro (@o_copy) (And.intro (@o_clear) (And.intro (@o_make) (And.intro (@o_min) (And.intro (@o_max) (And.intro (@q_load) (And.intro (@q_call) (And.intro (@q_len) (And.intro (@e_tmp) (And.intro (@e_const) (And.intro (@e_func) (And.intro (@e_glob) (And.intro (@upd_eq) (And.intro (@upd_ne) (And.intro (@uO_some) (@uO_none)))))))))))))))))))))))))))))))))))))))))))))))))))))))))))))))))))))))))))))))))))))))))))))))))))))))))))))))))))))))))))))))))))))
set_option maxRecDepth 100000 in
theorem VP : type_of% (And.intro (@hO_plain) (And.intro (@hO_grd) (And.intro (@hG_some) (And.intro (@r_normal) (And.intro (@r_ret) (And.intro (@res0) (And.intro (@res1) (And.intro (@res2) (And.intro (@res3) (And.intro (@res4) (And.intro (@resC) (And.intro (@resC2) (And.intro (@resC4) (And.intro (@grdT_some) (And.intro (@grdQ_some) (And.intro (@binO_some) (And.intro (@binD_int) (And.intro (@binD_string) (And.intro (@binD_bool) (And.intro (@binD_pointer) (And.intro (@binD_slice) (And.intro (@binD_array) (And.intro (@binD_struct) (And.intro (@binD_iface) (And.intro (@eqO_eql) (And.intro (@eqO_neq) (And.intro (@fldAO_struct) (And.intro (@fldA_some) (And.intro (@fldO_struct) (And.intro (@fldV_some) (And.intro (@partO_t) (And.intro (@partO_f) (And.intro (@idxAO_array) (And.intro (@idxAO_slice) (And.intro (@idxO_array) (And.intro (@slO_array) (And.intro (@slO_slice) (And.intro (@sl3O_slice) (And.intro (@bound_some) (And.intro (@bound_none) (And.intro (@convO_int) (And.intro (@cvE_int) (And.intro (@cvH_int) (And.intro (@cvH_slice) (And.intro (@cvH_string) (And.intro (@apE_same) (And.intro (@apE_other) (And.intro (@capO_slice) (And.intro (@cvE_string) (And.intro (@cvE_slice) (And.intro (@cvQ_int) (And.intro (@cvQ_string) (And.intro (@ifO_pointer) (And.intro (@ifO_struct) (And.intro (@ifO_int) (And.intro (@asrO_pointer) (And.intro (@asrV_nil) (And.intro (@asrV_hit) (And.intro (@valV_go) (And.intro (@pickV_t) (And.intro (@pickV_f) (And.intro (@un_not) (And.intro (@un_neg) (And.intro (@un_xor) (And.intro (@lenO_slice) (And.intro (@lenO_string) (And.intro (@lenO_array) (And.intro (@bldO_slice) (And.intro (@parts_nil) (And.intro (@parts_cons) (And.intro (@pok_nil) (And.intro (@pok_cons) (And.intro (@init_nil) (And.intro (@init_cons) (And.intro (@d_some) (And.intro (@d_none) (And.intro (@intV_lit) (And.intro (@boolV_lit) (And.intro (@ptrV_lit) (And.intro (@slcV_lit) (And.intro (@adrV_lit) (And.intro (@aggV_lit) (And.intro (@tupV_lit) (And.intro (@grdV_u) (And.intro (@grdV_bt) (And.intro (@grdV_bf) (And.intro (@cndV_b) (And.intro (@bsplit_t) (And.intro (@bsplit_f) (And.intro (@bsplit_d) (And.intro (@bsplit_n) (And.intro (@add_lit) (And.intro (@sub_lit) (And.intro (@mul_lit) (And.intro (@quo_lit) (And.intro (@rem_lit) (And.intro (@and_lit) (And.intro (@or_lit) (And.intro (@xor_lit) (And.intro (@andNot_lit) (And.intro (@shl_lit) (And.intro (@shr_lit) (And.intro (@eql_lit) (And.intro (@neq_lit) (And.intro (@lss_lit) (And.intro (@leq_lit) (And.intro (@gtr_lit) (And.intro (@geq_lit) (And.intro (@eqb_lit) (And.intro (@eqp_lit) (And.intro (@eqs_lit) (And.intro (@Option.map_some.{0,0}) (And.intro (@Option.bind_some.{0,0}) (And.intro (@List.map_cons.{0,0}) (And.intro (@List.map_nil.{0,0}) (And.intro (@List.map_toArray.{0,0}) (And.intro (@List.getElem?_cons_zero.{0}) (And.intro (@List.getElem?_cons_succ.{0}) (And.intro (@List.getElem?_toArray.{0}) (And.intro (@Option.some.injEq.{0}) (And.intro (@exists_eq_left'.{1}) (And.intro (@not_true_eq_false) (And.intro (@not_false_eq_true) (And.intro (@false_implies) (And.intro (@Classical.not_not) (And.intro (@true_and) (And.intro (@and_true) (And.intro (@true_implies) (And.intro (@ne_eq.{1}) (And.intro (@not_false_eq_true) (And.intro (@Bool.false_eq_true) (And.intro (@Bool.not_true) (And.intro (@Bool.not_false) (And.intro (@Int.cast_ofNat_Int) (And.intro (@decide_true) (And.intro (@decide_false) (And.intro (@decide_eq_true_eq) (And.intro (@Nat.mul_one) (And.intro (@Nat.one_mul) (And.intro (@Nat.zero_add) (And.intro (@Nat.add_zero) (And.intro (@List.append_nil.{0}) (And.intro (@List.nil_append.{0}) (And.intro (@List.cons_append.{0}) (And.intro (@List.size_toArray.{0}) (And.intro (@List.length_replicate.{0}) (And.intro (@Value.int.injEq) (And.intro (@Value.bool.injEq) (And.intro (@cells_agg) (And.intro (@cells_int) (And.intro (@cells_bool) (And.intro (@cells_sl) (And.intro (@cells_ptr) (And.intro (@Int.toNat_natCast) (@List.toList_toArray.{0}))))))))))))))))))))))))))))))))))))))))))))))))))))))))))))))))))))))))))))))))))))))))))))))))))))))))))))))))))))))))))))))))))))))))))))))))))))))))))) := And.intro (@hO_plain) (And.intro (@hO_grd) (And.intro (@hG_some) (And.intro (@r_normal) (And.intro (@r_ret) (And.intro (@res0) (And.intro (@res1) (And.intro (@res2) (And.intro (@res3) (And.intro (@res4) (And.intro (@resC) (And.intro (@resC2) (And.intro (@resC4) (And.intro (@grdT_some) (And.intro (@grdQ_some) (And.intro (@binO_some) (And.intro (@binD_int) (And.intro (@binD_string) (And.intro (@binD_bool) (And.intro (@binD_pointer) (And.intro (@binD_slice) (And.intro (@binD_array) (And.intro (@binD_struct) (And.intro (@binD_iface) (And.intro (@eqO_eql) (And.intro (@eqO_neq) (And.intro (@fldAO_struct) (And.intro (@fldA_some) (And.intro (@fldO_struct) (And.intro (@fldV_some) (And.intro (@partO_t) (And.intro (@partO_f) (And.intro (@idxAO_array) (And.intro (@idxAO_slice) (And.intro (@idxO_array) (And.intro (@slO_array) (And.intro (@slO_slice) (And.intro (@sl3O_slice) (And.intro (@bound_some) (And.intro (@bound_none) (And.intro (@convO_int) (And.intro (@cvE_int) (And.intro (@cvH_int) (And.intro (@cvH_slice) (And.intro (@cvH_string) (And.intro (@apE_same) (And.intro (@apE_other) (And.intro (@capO_slice) (And.intro (@cvE_string) (And.intro (@cvE_slice) (And.intro (@cvQ_int) (And.intro (@cvQ_string) (And.intro (@ifO_pointer) (And.intro (@ifO_struct) (And.intro (@ifO_int) (And.intro (@asrO_pointer) (And.intro (@asrV_nil) (And.intro (@asrV_hit) (And.intro (@valV_go) (And.intro (@pickV_t) (And.intro (@pickV_f) (And.intro (@un_not) (And.intro (@un_neg) (And.intro (@un_xor) (And.intro (@lenO_slice) (And.intro (@lenO_string) (And.intro (@lenO_array) (And.intro (@bldO_slice) (And.intro (@parts_nil) (And.intro (@parts_cons) (And.intro (@pok_nil) (And.intro (@pok_cons) (And.intro (@init_nil) (And.intro (@init_cons) (And.intro (@d_some) (And.intro (@d_none) (And.intro (@intV_lit) (And.intro (@boolV_lit) (And.intro (@ptrV_lit) (And.intro (@slcV_lit) (And.intro (@adrV_lit) (And.intro (@aggV_lit) (And.intro (@tupV_lit) (And.intro (@grdV_u) (And.intro (@grdV_bt) (And.intro (@grdV_bf) (And.intro (@cndV_b) (And.intro (@bsplit_t) (And.intro (@bsplit_f) (And.intro (@bsplit_d) (And.intro (@bsplit_n) (And.intro (@add_lit) (And.intro (@sub_lit) (And.intro (@mul_lit) (And.intro (@quo_lit) (And.intro (@rem_lit) (And.intro (@and_lit) (And.intro (@or_lit) (And.intro (@xor_lit) (And.intro (@andNot_lit) (And.intro (@shl_lit) (And.intro (@shr_lit) (And.intro (@eql_lit) (And.intro (@neq_lit) (And.intro (@lss_lit) (And.intro (@leq_lit) (And.intro (@gtr_lit) (And.intro (@geq_lit) (And.intro (@eqb_lit) (And.intro (@eqp_lit) (And.intro (@eqs_lit) (And.intro (@Option.map_some.{0,0}) (And.intro (@Option.bind_some.{0,0}) (And.intro (@List.map_cons.{0,0}) (And.intro (@List.map_nil.{0,0}) (And.intro (@List.map_toArray.{0,0}) (And.intro (@List.getElem?_cons_zero.{0}) (And.intro (@List.getElem?_cons_succ.{0}) (And.intro (@List.getElem?_toArray.{0}) (And.intro (@Option.some.injEq.{0}) (And.intro (@exists_eq_left'.{1}) (And.intro (@not_true_eq_false) (And.intro (@not_false_eq_true) (And.intro (@false_implies) (And.intro (@Classical.not_not) (And.intro (@true_and) (And.intro (@and_true) (And.intro (@true_implies) (And.intro (@ne_eq.{1}) (And.intro (@not_false_eq_true) (And.intro (@Bool.false_eq_true) (And.intro (@Bool.not_true) (And.intro (@Bool.not_false) (And.intro (@Int.cast_ofNat_Int) (And.intro (@decide_true) (And.intro (@decide_false) (And.intro (@decide_eq_true_eq) (And.intro (@Nat.mul_one) (And.intro (@Nat.one_mul) (And.intro (@Nat.zero_add) (And.intro (@Nat.add_zero) (And.intro (@List.append_nil.{0}) (And.intro (@List.nil_append.{0}) (And.intro (@List.cons_append.{0}) (And.intro (@List.size_toArray.{0}) (And.intro (@List.length_replicate.{0}) (And.intro (@Value.int.injEq) (And.intro (@Value.bool.injEq) (And.intro (@cells_agg) (And.intro (@cells_int) (And.intro (@cells_bool) (And.intro (@cells_sl) (And.intro (@cells_ptr) (And.intro (@Int.toNat_natCast) (@List.toList_toArray.{0}))))))))))))))))))))))))))))))))))))))))))))))))))))))))))))))))))))))))))))))))))))))))))))))))))))))))))))))))))))))))))))))))))))))))))))))))))))))))))
set_option maxRecDepth 100000 in
theorem VT : type_of% (And.intro (@Tryd.underlying0) (And.intro (@Tryd.underlying1) (And.intro (@Tryd.underlying2) (And.intro (@Tryd.underlying3) (And.intro (@Tryd.underlying4) (And.intro (@Tryd.underlying5) (And.intro (@Tryd.underlying6) (And.intro (@Tryd.underlying7) (And.intro (@Tryd.underlying8) (And.intro (@Tryd.underlying9) (And.intro (@Tryd.underlying10) (And.intro (@Tryd.underlying11) (And.intro (@Tryd.underlying12) (And.intro (@Tryd.underlying13) (And.intro (@Tryd.underlying14) (And.intro (@Tryd.underlying15) (And.intro (@Tryd.underlying16) (And.intro (@Tryd.underlying17) (And.intro (@Tryd.underlying18) (And.intro (@Tryd.underlying19) (And.intro (@Tryd.underlying20) (And.intro (@Tryd.underlying21) (And.intro (@Tryd.underlying22) (And.intro (@Tryd.underlying23) (And.intro (@Tryd.underlying24) (And.intro (@Tryd.underlying25) (And.intro (@Tryd.underlying26) (And.intro (@Tryd.underlying27) (And.intro (@Tryd.underlying28) (And.intro (@Tryd.underlying29) (And.intro (@Tryd.underlying30) (And.intro (@Tryd.underlying31) (And.intro (@Tryd.underlying32) (And.intro (@Tryd.underlying33) (And.intro (@Tryd.underlying34) (And.intro (@Tryd.underlying35) (And.intro (@Tryd.underlying36) (And.intro (@Tryd.underlying37) (And.intro (@Tryd.underlying38) (And.intro (@Tryd.underlying39) (And.intro (@Tryd.underlying40) (And.intro (@Tryd.underlying41) (And.intro (@Tryd.underlying42) (And.intro (@Tryd.underlying43) (And.intro (@Tryd.underlying44) (And.intro (@Tryd.underlying45) (And.intro (@Tryd.underlying46) (And.intro (@Tryd.underlying47) (And.intro (@Tryd.underlying48) (And.intro (@Tryd.underlying49) (And.intro (@Tryd.underlying50) (And.intro (@Tryd.underlying51) (And.intro (@Tryd.underlying52) (And.intro (@Tryd.underlying53) (And.intro (@Tryd.underlying54) (And.intro (@Tryd.underlying55) (And.intro (@Tryd.underlying56) (And.intro (@Tryd.underlying57) (And.intro (@Tryd.underlying58) (And.intro (@Tryd.underlying59) (And.intro (@Tryd.underlying60) (And.intro (@Tryd.underlying61) (And.intro (@Tryd.underlying62) (And.intro (@Tryd.underlying63) (And.intro (@Tryd.underlying64) (And.intro (@Tryd.underlying65) (And.intro (@Tryd.underlying66) (And.intro (@Tryd.underlying67) (And.intro (@Tryd.underlying68) (And.intro (@Tryd.underlying69) (And.intro (@Tryd.underlying70) (And.intro (@Tryd.underlying71) (And.intro (@Tryd.underlying72) (And.intro (@Tryd.underlying73) (And.intro (@Tryd.underlying74) (And.intro (@Tryd.underlying75) (And.intro (@Tryd.underlying76) (And.intro (@Tryd.underlying77) (And.intro (@Tryd.underlying78) (And.intro (@Tryd.underlying79) (And.intro (@Tryd.underlying80) (And.intro (@Tryd.underlying81) (And.intro (@Tryd.underlying82) (And.intro (@Tryd.underlying83) (And.intro (@Tryd.underlying84) (And.intro (@Tryd.underlying85) (And.intro (@Tryd.underlying86) (And.intro (@Tryd.underlying87) (And.intro (@Tryd.underlying88) (And.intro (@Tryd.underlying89) (And.intro (@Tryd.underlying90) (And.intro (@Tryd.underlying91) (And.intro (@Tryd.underlying92) (And.intro (@Tryd.underlying93) (And.intro (@Tryd.underlying94) (And.intro (@Tryd.underlying95) (And.intro (@Tryd.underlying96) (And.intro (@Tryd.underlying97) (And.intro (@Tryd.underlying98) (And.intro (@Tryd.underlying99) (And.intro (@Tryd.underlying100) (And.intro (@Tryd.underlying101) (And.intro (@Tryd.underlying102) (And.intro (@Tryd.underlying103) (And.intro (@Tryd.underlying104) (And.intro (@Tryd.underlying105) (And.intro (@Tryd.underlying106) (And.intro (@Tryd.underlying107) (And.intro (@Tryd.underlying108) (And.intro (@Tryd.underlying109) (And.intro (@Tryd.underlying110) (And.intro (@Tryd.underlying111) (And.intro (@Tryd.underlying112) (And.intro (@Tryd.underlying113) (And.intro (@Tryd.underlying114) (And.intro (@Tryd.underlying115) (And.intro (@Tryd.underlying116) (And.intro (@Tryd.underlying117) (And.intro (@Tryd.underlying118) (And.intro (@Tryd.underlying119) (And.intro (@Tryd.underlying120) (And.intro (@Tryd.underlying121) (And.intro (@Tryd.underlying122) (And.intro (@Tryd.underlying123) (And.intro (@Tryd.underlying124) (And.intro (@Tryd.underlying125) (And.intro (@Tryd.underlying126) (And.intro (@Tryd.underlying127) (And.intro (@Tryd.underlying128) (And.intro (@Tryd.underlying129) (And.intro (@Tryd.underlying130) (And.intro (@Tryd.underlying131) (And.intro (@Tryd.underlying132) (And.intro (@Tryd.underlying133) (And.intro (@Tryd.underlying134) (And.intro (@Tryd.underlying135) (And.intro (@Tryd.underlying136) (And.intro (@Tryd.underlying137) (And.intro (@Tryd.underlying138) (And.intro (@Tryd.underlying139) (And.intro (@Tryd.underlying140) (And.intro (@Tryd.underlying141) (And.intro (@Tryd.underlying142) (And.intro (@Tryd.underlying143) (And.intro (@Tryd.underlying144) (And.intro (@Tryd.underlying145) (And.intro (@Tryd.underlying146) (And.intro (@Tryd.underlying147) (And.intro (@Tryd.underlying148) (And.intro (@Tryd.underlying149) (And.intro (@Tryd.underlying150) (And.intro (@Tryd.underlying151) (And.intro (@Tryd.underlying152) (And.intro (@Tryd.underlying153) (And.intro (@Tryd.underlying154) (And.intro (@Tryd.underlying155) (And.intro (@Tryd.underlying156) (And.intro (@Tryd.underlying157) (And.intro (@Tryd.underlying158) (And.intro (@Tryd.underlying159) (And.intro (@Tryd.underlying160) (And.intro (@Tryd.underlying161) (And.intro (@Tryd.underlying162) (And.intro (@Tryd.underlying163) (And.intro (@Tryd.underlying164) (And.intro (@Tryd.underlying165) (And.intro (@c0) (And.intro (@c1) (And.intro (@c2) (And.intro (@c3) (And.intro (@c4) (And.intro (@c5) (And.intro (@c6) (And.intro (@c7) (And.intro (@c8) (And.intro (@c9) (And.intro (@c10) (And.intro (@c11) (And.intro (@c12) (And.intro (@c13) (And.intro (@c14) (And.intro (@c15) (And.intro (@c16) (And.intro (@c17) (And.intro (@c18) (And.intro (@c19) (And.intro (@c20) (And.intro (@c21) (And.intro (@c22) (And.intro (@c23) (And.intro (@c24) (And.intro (@c25) (And.intro (@c26) (And.intro (@c27) (And.intro (@c28) (And.intro (@c29) (And.intro (@c30) (And.intro (@c31) (And.intro (@c32) (And.intro (@c33) (And.intro (@c34) (And.intro (@c35) (And.intro (@c36) (And.intro (@c37) (And.intro (@c38) (And.intro (@c39) (And.intro (@c40) (And.intro (@c41) (And.intro (@c42) (And.intro (@c43) (And.intro (@c44) (And.intro (@c45) (And.intro (@c46) (And.intro (@c47) (And.intro (@c48) (And.intro (@c49) (And.intro (@c50) (And.intro (@c51) (And.intro (@c52) (And.intro (@c53) (And.intro (@c54) (And.intro (@c55) (And.intro (@c56) (And.intro (@c57) (And.intro (@c58) (And.intro (@c59) (And.intro (@c60) (And.intro (@c61) (And.intro (@c62) (And.intro (@c63) (And.intro (@c64) (And.intro (@c65) (And.intro (@c66) (And.intro (@c67) (And.intro (@c68) (And.intro (@c69) (And.intro (@c70) (And.intro (@c71) (And.intro (@c72) (And.intro (@c73) (And.intro (@c74) (And.intro (@c75) (And.intro (@c76) (And.intro (@c77) (And.intro (@c78) (And.intro (@c79) (And.intro (@c80) (And.intro (@c81) (And.intro (@c82) (And.intro (@c83) (And.intro (@c84) (And.intro (@c85) (And.intro (@c86) (And.intro (@c87) (And.intro (@c88) (And.intro (@c89) (And.intro (@c90) (And.intro (@c91) (And.intro (@c92) (And.intro (@c93) (And.intro (@c94) (And.intro (@c95) (And.intro (@c96) (And.intro (@c97) (And.intro (@c98) (And.intro (@c99) (And.intro (@c100) (And.intro (@c101) (And.intro (@c102) (And.intro (@c103) (And.intro (@c104) (And.intro (@c105) (And.intro (@c106) (And.intro (@c107) (And.intro (@c108) (And.intro (@c109) (And.intro (@c110) (And.intro (@c111) (And.intro (@c112) (And.intro (@c113) (And.intro (@c114) (And.intro (@c115) (And.intro (@c116) (And.intro (@c117) (And.intro (@c118) (And.intro (@c119) (And.intro (@c120) (And.intro (@c121) (And.intro (@c122) (And.intro (@c123) (And.intro (@c124) (And.intro (@c125) (And.intro (@c126) (And.intro (@c127) (And.intro (@c128) (And.intro (@c129) (And.intro (@c130) (And.intro (@c131) (And.intro (@c132) (And.intro (@c133) (And.intro (@c134) (And.intro (@c135) (And.intro (@c136) (And.intro (@c137) (And.intro (@c138) (And.intro (@c139) (And.intro (@c140) (And.intro (@c141) (And.intro (@c142) (And.intro (@c143) (And.intro (@c144) (And.intro (@c145) (And.intro (@c146) (And.intro (@c147) (And.intro (@c148) (And.intro (@c149) (And.intro (@c150) (And.intro (@c151) (And.intro (@c152) (And.intro (@c153) (And.intro (@c154) (And.intro (@c155) (And.intro (@c156) (And.intro (@c157) (And.intro (@c158) (And.intro (@c159) (And.intro (@c160) (And.intro (@c161) (And.intro (@c162) (And.intro (@c163) (And.intro (@c164) (And.intro (@c165) (And.intro (@z1) (And.intro (@z2) (And.intro (@z3) (And.intro (@z4) (And.intro (@z5) (And.intro (@z6) (And.intro (@z7) (And.intro (@z8) (And.intro (@z9) (And.intro (@z10) (And.intro (@z11) (And.intro (@z12) (And.intro (@z13) (And.intro (@z14) (And.intro (@z15) (And.intro (@z16) (And.intro (@z17) (And.intro (@z18) (And.intro (@z19) (And.intro (@z20) (And.intro (@z21) (And.intro (@z22) (And.intro (@z23) (And.intro (@z24) (And.intro (@z25) (And.intro (@z26) (And.intro (@z28) (And.intro (@z29) (And.intro (@z30) (And.intro (@z31) (And.intro (@z32) (And.intro (@z33) (And.intro (@z34) (And.intro (@z35) (And.intro (@z36) (And.intro (@z37) (And.intro (@z38) (And.intro (@z39) (And.intro (@z41) (And.intro (@z43) (And.intro (@z44) (And.intro (@z45) (And.intro (@z46) (And.intro (@z48) (And.intro (@z49) (And.intro (@z50) (And.intro (@z51) (And.intro (@z53) (And.intro (@z54) (And.intro (@z55) (And.intro (@z56) (And.intro (@z57) (And.intro (@z58) (And.intro (@z59) (And.intro (@z60) (And.intro (@z61) (And.intro (@z63) (And.intro (@z64) (And.intro (@z65) (And.intro (@z67) (And.intro (@z68) (And.intro (@z69) (And.intro (@z70) (And.intro (@z71) (And.intro (@z72) (And.intro (@z73) (And.intro (@z74) (And.intro (@z75) (And.intro (@z76) (And.intro (@z77) (And.intro (@z78) (And.intro (@z79) (And.intro (@z80) (And.intro (@z81) (And.intro (@z83) (And.intro (@z84) (And.intro (@z85) (And.intro (@z87) (And.intro (@z88) (And.intro (@z89) (And.intro (@z90) (And.intro (@z91) (And.intro (@z92) (And.intro (@z93) (And.intro (@z94) (And.intro (@z95) (And.intro (@z96) (And.intro (@z97) (And.intro (@z98) (And.intro (@z99) (And.intro (@z100) (And.intro (@z101) (And.intro (@z102) (And.intro (@z103) (And.intro (@z104) (And.intro (@z105) (And.intro (@z107) (And.intro (@z108) (And.intro (@z109) (And.intro (@z110) (And.intro (@z111) (And.intro (@z112) (And.intro (@z113) (And.intro (@z114) (And.intro (@z115) (And.intro (@z116) (And.intro (@z117) (And.intro (@z118) (And.intro (@z119) (And.intro (@z120) (And.intro (@z121) (And.intro (@z122) (And.intro (@z123) (And.intro (@z124) (And.intro (@z125) (And.intro (@z126) (And.intro (@z127) (And.intro (@z128) (And.intro (@z129) (And.intro (@z130) (And.intro (@z131) (And.intro (@z132) (And.intro (@z133) (And.intro (@z134) (And.intro (@z135) (And.intro (@z136) (And.intro (@z138) (And.intro (@z139) (And.intro (@z140) (And.intro (@z141) (And.intro (@z142) (And.intro (@z143) (And.intro (@z144) (And.intro (@z145) (And.intro (@z146) (And.intro (@z147) (And.intro (@z148) (And.intro (@z149) (And.intro (@z150) (And.intro (@z151) (And.intro (@z152) (And.intro (@z153) (And.intro (@z154) (And.intro (@z155) (And.intro (@z156) (And.intro (@z157) (And.intro (@z158) (And.intro (@z159) (And.intro (@z160) (And.intro (@z161) (And.intro (@z162) (And.intro (@z163) (And.intro (@z164) (@z165)))))))))))))))))))))))))))))))))))))))))))))))))))))))))))))))))))))))))))))))))))))))))))))))))))))))))))))))))))))))))))))))))))))))))))))))))))))))))))))))))))))))))))))))))))))))))))))))))))))))))))))))))))))))))))))))))))))))))))))))))))))))))))))))))))))))))))))))))))))))))))))))))))))))))))))))))))))))))))))))))))))))))))))))))))))))))))))))))))))))))))))))))))))))))))))))))))))))))))))))))))))))))))))))))))))))))))))))))))))))))))))))))))))))))))))))))))))))))))))))))))))) := And.intro (@Tryd.underlying0) (And.intro (@Tryd.underlying1) (And.intro (@Tryd.underlying2) (And.intro (@Tryd.underlying3) (And.intro (@Tryd.underlying4) (And.intro (@Tryd.underlying5) (And.intro (@Tryd.underlying6) (And.intro (@Tryd.underlying7) (And.intro (@Tryd.underlying8) (And.intro (@Tryd.underlying9) (And.intro (@Tryd.underlying10) (And.intro (@Tryd.underlying11) (And.intro (@Tryd.underlying12) (And.intro (@Tryd.underlying13) (And.intro (@Tryd.underlying14) (And.intro (@Tryd.underlying15) (And.intro (@Tryd.underlying16) (And.intro (@Tryd.underlying17) (And.intro (@Tryd.underlying18) (And.intro (@Tryd.underlying19) (And.intro (@Tryd.underlying20) (And.intro (@Tryd.underlying21) (And.intro (@Tryd.underlying22) (And.intro (@Tryd.underlying23) (And.intro (@Tryd.underlying24) (And.intro (@Tryd.underlying25) (And.intro (@Tryd.underlying26) (And.intro (@Tryd.underlying27) (And.intro (@Tryd.underlying28) (And.intro (@Tryd.underlying29) (And.intro (@Tryd.underlying30) (And.intro (@Tryd.underlying31) (And.intro (@Tryd.underlying32) (And.intro (@Tryd.underlying33) (And.intro (@Tryd.underlying34) (And.intro (@Tryd.underlying35) (And.intro (@Tryd.underlying36) (And.intro (@Tryd.underlying37) (And.intro (@Tryd.underlying38) (And.intro (@Tryd.underlying39) (And.intro (@Tryd.underlying40) (And.intro (@Tryd.underlying41) (And.intro (@Tryd.underlying42) (And.intro (@Tryd.underlying43) (And.intro (@Tryd.underlying44) (And.intro (@Tryd.underlying45) (And.intro (@Tryd.underlying46) (And.intro (@Tryd.underlying47) (And.intro (@Tryd.underlying48) (And.intro (@Tryd.underlying49) (And.intro (@Tryd.underlying50) (And.intro (@Tryd.underlying51) (And.intro (@Tryd.underlying52) (And.intro (@Tryd.underlying53) (And.intro (@Tryd.underlying54) (And.intro (@Tryd.underlying55) (And.intro (@Tryd.underlying56) (And.intro (@Tryd.underlying57) (And.intro (@Tryd.underlying58) (And.intro (@Tryd.underlying59) (And.intro (@Tryd.underlying60) (And.intro (@Tryd.underlying61) (And.intro (@Tryd.underlying62) (And.intro (@Tryd.underlying63) (And.intro (@Tryd.underlying64) (And.intro (@Tryd.underlying65) (And.intro (@Tryd.underlying66) (And.intro (@Tryd.underlying67) (And.intro (@Tryd.underlying68) (And.intro (@Tryd.underlying69) (And.intro (@Tryd.underlying70) (And.intro (@Tryd.underlying71) (And.intro (@Tryd.underlying72) (And.intro (@Tryd.underlying73) (And.intro (@Tryd.underlying74) (And.intro (@Tryd.underlying75) (And.intro (@Tryd.underlying76) (And.intro (@Tryd.underlying77) (And.intro (@Tryd.underlying78) (And.intro (@Tryd.underlying79) (And.intro (@Tryd.underlying80) (And.intro (@Tryd.underlying81) (And.intro (@Tryd.underlying82) (And.intro (@Tryd.underlying83) (And.intro (@Tryd.underlying84) (And.intro (@Tryd.underlying85) (And.intro (@Tryd.underlying86) (And.intro (@Tryd.underlying87) (And.intro (@Tryd.underlying88) (And.intro (@Tryd.underlying89) (And.intro (@Tryd.underlying90) (And.intro (@Tryd.underlying91) (And.intro (@Tryd.underlying92) (And.intro (@Tryd.underlying93) (And.intro (@Tryd.underlying94) (And.intro (@Tryd.underlying95) (And.intro (@Tryd.underlying96) (And.intro (@Tryd.underlying97) (And.intro (@Tryd.underlying98) (And.intro (@Tryd.underlying99) (And.intro (@Tryd.underlying100) (And.intro (@Tryd.underlying101) (And.intro (@Tryd.underlying102) (And.intro (@Tryd.underlying103) (And.intro (@Tryd.underlying104) (And.intro (@Tryd.underlying105) (And.intro (@Tryd.underlying106) (And.intro (@Tryd.underlying107) (And.intro (@Tryd.underlying108) (And.intro (@Tryd.underlying109) (And.intro (@Tryd.underlying110) (And.intro (@Tryd.underlying111) (And.intro (@Tryd.underlying112) (And.intro (@Tryd.underlying113) (And.intro (@Tryd.underlying114) (And.intro (@Tryd.underlying115) (And.intro (@Tryd.underlying116) (And.intro (@Tryd.underlying117) (And.intro (@Tryd.underlying118) (And.intro (@Tryd.underlying119) (And.intro (@Tryd.underlying120) (And.intro (@Tryd.underlying121) (And.intro (@Tryd.underlying122) (And.intro (@Tryd.underlying123) (And.intro (@Tryd.underlying124) (And.intro (@Tryd.underlying125) (And.intro (@Tryd.underlying126) (And.intro (@Tryd.underlying127) (And.intro (@Tryd.underlying128) (And.intro (@Tryd.underlying129) (And.intro (@Tryd.underlying130) (And.intro (@Tryd.underlying131) (And.intro (@Tryd.underlying132) (And.intro (@Tryd.underlying133) (And.intro (@Tryd.underlying134) (And.intro (@Tryd.underlying135) (And.intro (@Tryd.underlying136) (And.intro (@Tryd.underlying137) (And.intro (@Tryd.underlying138) (And.intro (@Tryd.underlying139) (And.intro (@Tryd.underlying140) (And.intro (@Tryd.underlying141) (And.intro (@Tryd.underlying142) (And.intro (@Tryd.underlying143) (And.intro (@Tryd.underlying144) (And.intro (@Tryd.underlying145) (And.intro (@Tryd.underlying146) (And.intro (@Tryd.underlying147) (And.intro (@Tryd.underlying148) (And.intro (@Tryd.underlying149) (And.intro (@Tryd.underlying150) (And.intro (@Tryd.underlying151) (And.intro (@Tryd.underlying152) (And.intro (@Tryd.underlying153) (And.intro (@Tryd.underlying154) (And.intro (@Tryd.underlying155) (And.intro (@Tryd.underlying156) (And.intro (@Tryd.underlying157) (And.intro (@Tryd.underlying158) (And.intro (@Tryd.underlying159) (And.intro (@Tryd.underlying160) (And.intro (@Tryd.underlying161) (And.intro (@Tryd.underlying162) (And.intro (@Tryd.underlying163) (And.intro (@Tryd.underlying164) (And.intro (@Tryd.underlying165) (And.intro (@c0) (And.intro (@c1) (And.intro (@c2) (And.intro (@c3) (And.intro (@c4) (And.intro (@c5) (And.intro (@c6) (And.intro (@c7) (And.intro (@c8) (And.intro (@c9) (And.intro (@c10) (And.intro (@c11) (And.intro (@c12) (And.intro (@c13) (And.intro (@c14) (And.intro (@c15) (And.intro (@c16) (And.intro (@c17) (And.intro (@c18) (And.intro (@c19) (And.intro (@c20) (And.intro (@c21) (And.intro (@c22) (And.intro (@c23) (And.intro (@c24) (And.intro (@c25) (And.intro (@c26) (And.intro (@c27) (And.intro (@c28) (And.intro (@c29) (And.intro (@c30) (And.intro (@c31) (And.intro (@c32) (And.intro (@c33) (And.intro (@c34) (And.intro (@c35) (And.intro (@c36) (And.intro (@c37) (And.intro (@c38) (And.intro (@c39) (And.intro (@c40) (And.intro (@c41) (And.intro (@c42) (And.intro (@c43) (And.intro (@c44) (And.intro (@c45) (And.intro (@c46) (And.intro (@c47) (And.intro (@c48) (And.intro (@c49) (And.intro (@c50) (And.intro (@c51) (And.intro (@c52) (And.intro (@c53) (And.intro (@c54) (And.intro (@c55) (And.intro (@c56) (And.intro (@c57) (And.intro (@c58) (And.intro (@c59) (And.intro (@c60) (And.intro (@c61) (And.intro (@c62) (And.intro (@c63) (And.intro (@c64) (And.intro (@c65) (And.intro (@c66) (And.intro (@c67) (And.intro (@c68) (And.intro (@c69) (And.intro (@c70) (And.intro (@c71) (And.intro (@c72) (And.intro (@c73) (And.intro (@c74) (And.intro (@c75) (And.intro (@c76) (And.intro (@c77) (And.intro (@c78) (And.intro (@c79) (And.intro (@c80) (And.intro (@c81) (And.intro (@c82) (And.intro (@c83) (And.intro (@c84) (And.intro (@c85) (And.intro (@c86) (And.intro (@c87) (And.intro (@c88) (And.intro (@c89) (And.intro (@c90) (And.intro (@c91) (And.intro (@c92) (And.intro (@c93) (And.intro (@c94) (And.intro (@c95) (And.intro (@c96) (And.intro (@c97) (And.intro (@c98) (And.intro (@c99) (And.intro (@c100) (And.intro (@c101) (And.intro (@c102) (And.intro (@c103) (And.intro (@c104) (And.intro (@c105) (And.intro (@c106) (And.intro (@c107) (And.intro (@c108) (And.intro (@c109) (And.intro (@c110) (And.intro (@c111) (And.intro (@c112) (And.intro (@c113) (And.intro (@c114) (And.intro (@c115) (And.intro (@c116) (And.intro (@c117) (And.intro (@c118) (And.intro (@c119) (And.intro (@c120) (And.intro (@c121) (And.intro (@c122) (And.intro (@c123) (And.intro (@c124) (And.intro (@c125) (And.intro (@c126) (And.intro (@c127) (And.intro (@c128) (And.intro (@c129) (And.intro (@c130) (And.intro (@c131) (And.intro (@c132) (And.intro (@c133) (And.intro (@c134) (And.intro (@c135) (And.intro (@c136) (And.intro (@c137) (And.intro (@c138) (And.intro (@c139) (And.intro (@c140) (And.intro (@c141) (And.intro (@c142) (And.intro (@c143) (And.intro (@c144) (And.intro (@c145) (And.intro (@c146) (And.intro (@c147) (And.intro (@c148) (And.intro (@c149) (And.intro (@c150) (And.intro (@c151) (And.intro (@c152) (And.intro (@c153) (And.intro (@c154) (And.intro (@c155) (And.intro (@c156) (And.intro (@c157) (And.intro (@c158) (And.intro (@c159) (And.intro (@c160) (And.intro (@c161) (And.intro (@c162) (And.intro (@c163) (And.intro (@c164) (And.intro (@c165) (And.intro (@z1) (And.intro (@z2) (And.intro (@z3) (And.intro (@z4) (And.intro (@z5) (And.intro (@z6) (And.intro (@z7) (And.intro (@z8) (And.intro (@z9) (And.intro (@z10) (And.intro (@z11) (And.intro (@z12) (And.intro (@z13) (And.intro (@z14) (And.intro (@z15) (And.intro (@z16) (And.intro (@z17) (And.intro (@z18) (And.intro (@z19) (And.intro (@z20) (And.intro (@z21) (And.intro (@z22) (And.intro (@z23) (And.intro (@z24) (And.intro (@z25) (And.intro (@z26) (And.intro (@z28) (And.intro (@z29) (And.intro (@z30) (And.intro (@z31) (And.intro (@z32) (And.intro (@z33) (And.intro (@z34) (And.intro (@z35) (And.intro (@z36) (And.intro (@z37) (And.intro (@z38) (And.intro (@z39) (And.intro (@z41) (And.intro (@z43) (And.intro (@z44) (And.intro (@z45) (And.intro (@z46) (And.intro (@z48) (And.intro (@z49) (And.intro (@z50) (And.intro (@z51) (And.intro (@z53) (And.intro (@z54) (And.intro (@z55) (And.intro (@z56) (And.intro (@z57) (And.intro (@z58) (And.intro (@z59) (And.intro (@z60) (And.intro (@z61) (And.intro (@z63) (And.intro (@z64) (And.intro (@z65) (And.intro (@z67) (And.intro (@z68) (And.intro (@z69) (And.intro (@z70) (And.intro (@z71) (And.intro (@z72) (And.intro (@z73) (And.intro (@z74) (And.intro (@z75) (And.intro (@z76) (And.intro (@z77) (And.intro (@z78) (And.intro (@z79) (And.intro (@z80) (And.intro (@z81) (And.intro (@z83) (And.intro (@z84) (And.intro (@z85) (And.intro (@z87) (And.intro (@z88) (And.intro (@z89) (And.intro (@z90) (And.intro (@z91) (And.intro (@z92) (And.intro (@z93) (And.intro (@z94) (And.intro (@z95) (And.intro (@z96) (And.intro (@z97) (And.intro (@z98) (And.intro (@z99) (And.intro (@z100) (And.intro (@z101) (And.intro (@z102) (And.intro (@z103) (And.intro (@z104) (And.intro (@z105) (And.intro (@z107) (And.intro (@z108) (And.intro (@z109) (And.intro (@z110) (And.intro (@z111) (And.intro (@z112) (And.intro (@z113) (And.intro (@z114) (And.intro (@z115) (And.intro (@z116) (And.intro (@z117) (And.intro (@z118) (And.intro (@z119) (And.intro (@z120) (And.intro (@z121) (And.intro (@z122) (And.intro (@z123) (And.intro (@z124) (And.intro (@z125) (And.intro (@z126) (And.intro (@z127) (And.intro (@z128) (And.intro (@z129) (And.intro (@z130) (And.intro (@z131) (And.intro (@z132) (And.intro (@z133) (And.intro (@z134) (And.intro (@z135) (And.intro (@z136) (And.intro (@z138) (And.intro (@z139) (And.intro (@z140) (And.intro (@z141) (And.intro (@z142) (And.intro (@z143) (And.intro (@z144) (And.intro (@z145) (And.intro (@z146) (And.intro (@z147) (And.intro (@z148) (And.intro (@z149) (And.intro (@z150) (And.intro (@z151) (And.intro (@z152) (And.intro (@z153) (And.intro (@z154) (And.intro (@z155) (And.intro (@z156) (And.intro (@z157) (And.intro (@z158) (And.intro (@z159) (And.intro (@z160) (And.intro (@z161) (And.intro (@z162) (And.intro (@z163) (And.intro (@z164) (@z165)))))))))))))))))))))))))))))))))))))))))))))))))))))))))))))))))))))))))))))))))))))))))))))))))))))))))))))))))))))))))))))))))))))))))))))))))))))))))))))))))))))))))))))))))))))))))))))))))))))))))))))))))))))))))))))))))))))))))))))))))))))))))))))))))))))))))))))))))))))))))))))))))))))))))))))))))))))))))))))))))))))))))))))))))))))))))))))))))))))))))))))))))))))))))))))))))))))))))))))))))))))))))))))))))))))))))))))))))))))))))))))))))))))))))))))))))))))))))))))))))))))
end Go.Proofs.YtieaoldoiahgpaaDoor

/- The executor's tables are right. -/
import Derived.Test.YtgpgblaoifpbnaaGreatDoorSxEnv
import Derived.Test.YtgpgblaoifpbnaaGreatDoorSxExec
import Derived.Test.YtgpgblaoifpbnaaGreatDoorSxRun2
import Derived.Test.YtgpgblaoifpbnaaGreatDoorSxAlive
import Derived.Test.YtgpgblaoifpbnaaGreatDoorSxWrites2


namespace Go.Proofs.YtgpgblaoifpbnaaGreatDoor
open Go.RowKit Bl Th Go.Sx
set_option maxRecDepth 100000
def TyQ (n : Nat) (i : TypeInfo) : Prop := Tryz.prog.info? n = some i ∧ zeroB i = true
def FnQ (n : Nat) (fn : Func) : Prop := Tryz.prog.funcs[n]? = some fn ∧ (fn.name == "runtime.NumGoroutine") = false ∧ fnB fn = true
theorem tyN255_ok : TrOk TyQ tyN255 256 255 := TrOk.node ⟨Tryz.type255, by kernel_rfl⟩ TrOk.nil TrOk.nil
theorem tyN127_ok : TrOk TyQ tyN127 128 127 := TrOk.node ⟨Tryz.type127, by kernel_rfl⟩ tyN255_ok TrOk.nil
theorem tyN191_ok : TrOk TyQ tyN191 128 191 := TrOk.node ⟨Tryz.type191, by kernel_rfl⟩ TrOk.nil TrOk.nil
theorem tyN63_ok : TrOk TyQ tyN63 64 63 := TrOk.node ⟨Tryz.type63, by kernel_rfl⟩ tyN127_ok tyN191_ok
theorem tyN159_ok : TrOk TyQ tyN159 128 159 := TrOk.node ⟨Tryz.type159, by kernel_rfl⟩ TrOk.nil TrOk.nil
theorem tyN223_ok : TrOk TyQ tyN223 128 223 := TrOk.node ⟨Tryz.type223, by kernel_rfl⟩ TrOk.nil TrOk.nil
theorem tyN95_ok : TrOk TyQ tyN95 64 95 := TrOk.node ⟨Tryz.type95, by kernel_rfl⟩ tyN159_ok tyN223_ok
theorem tyN31_ok : TrOk TyQ tyN31 32 31 := TrOk.node ⟨Tryz.type31, by kernel_rfl⟩ tyN63_ok tyN95_ok
theorem tyN271_ok : TrOk TyQ tyN271 256 271 := TrOk.node ⟨Tryz.type271, by kernel_rfl⟩ TrOk.nil TrOk.nil
theorem tyN143_ok : TrOk TyQ tyN143 128 143 := TrOk.node ⟨Tryz.type143, by kernel_rfl⟩ tyN271_ok TrOk.nil
theorem tyN207_ok : TrOk TyQ tyN207 128 207 := TrOk.node ⟨Tryz.type207, by kernel_rfl⟩ TrOk.nil TrOk.nil
theorem tyN79_ok : TrOk TyQ tyN79 64 79 := TrOk.node ⟨Tryz.type79, by kernel_rfl⟩ tyN143_ok tyN207_ok
theorem tyN175_ok : TrOk TyQ tyN175 128 175 := TrOk.node ⟨Tryz.type175, by kernel_rfl⟩ TrOk.nil TrOk.nil
theorem tyN239_ok : TrOk TyQ tyN239 128 239 := TrOk.node ⟨Tryz.type239, by kernel_rfl⟩ TrOk.nil TrOk.nil
theorem tyN111_ok : TrOk TyQ tyN111 64 111 := TrOk.node ⟨Tryz.type111, by kernel_rfl⟩ tyN175_ok tyN239_ok
theorem tyN47_ok : TrOk TyQ tyN47 32 47 := TrOk.node ⟨Tryz.type47, by kernel_rfl⟩ tyN79_ok tyN111_ok
theorem tyN15_ok : TrOk TyQ tyN15 16 15 := TrOk.node ⟨Tryz.type15, by kernel_rfl⟩ tyN31_ok tyN47_ok
theorem tyN263_ok : TrOk TyQ tyN263 256 263 := TrOk.node ⟨Tryz.type263, by kernel_rfl⟩ TrOk.nil TrOk.nil
theorem tyN135_ok : TrOk TyQ tyN135 128 135 := TrOk.node ⟨Tryz.type135, by kernel_rfl⟩ tyN263_ok TrOk.nil
theorem tyN199_ok : TrOk TyQ tyN199 128 199 := TrOk.node ⟨Tryz.type199, by kernel_rfl⟩ TrOk.nil TrOk.nil
theorem tyN71_ok : TrOk TyQ tyN71 64 71 := TrOk.node ⟨Tryz.type71, by kernel_rfl⟩ tyN135_ok tyN199_ok
theorem tyN167_ok : TrOk TyQ tyN167 128 167 := TrOk.node ⟨Tryz.type167, by kernel_rfl⟩ TrOk.nil TrOk.nil
theorem tyN231_ok : TrOk TyQ tyN231 128 231 := TrOk.node ⟨Tryz.type231, by kernel_rfl⟩ TrOk.nil TrOk.nil
theorem tyN103_ok : TrOk TyQ tyN103 64 103 := TrOk.node ⟨Tryz.type103, by kernel_rfl⟩ tyN167_ok tyN231_ok
theorem tyN39_ok : TrOk TyQ tyN39 32 39 := TrOk.node ⟨Tryz.type39, by kernel_rfl⟩ tyN71_ok tyN103_ok
theorem tyN279_ok : TrOk TyQ tyN279 256 279 := TrOk.node ⟨Tryz.type279, by kernel_rfl⟩ TrOk.nil TrOk.nil
theorem tyN151_ok : TrOk TyQ tyN151 128 151 := TrOk.node ⟨Tryz.type151, by kernel_rfl⟩ tyN279_ok TrOk.nil
theorem tyN215_ok : TrOk TyQ tyN215 128 215 := TrOk.node ⟨Tryz.type215, by kernel_rfl⟩ TrOk.nil TrOk.nil
theorem tyN87_ok : TrOk TyQ tyN87 64 87 := TrOk.node ⟨Tryz.type87, by kernel_rfl⟩ tyN151_ok tyN215_ok
theorem tyN183_ok : TrOk TyQ tyN183 128 183 := TrOk.node ⟨Tryz.type183, by kernel_rfl⟩ TrOk.nil TrOk.nil
theorem tyN247_ok : TrOk TyQ tyN247 128 247 := TrOk.node ⟨Tryz.type247, by kernel_rfl⟩ TrOk.nil TrOk.nil
theorem tyN119_ok : TrOk TyQ tyN119 64 119 := TrOk.node ⟨Tryz.type119, by kernel_rfl⟩ tyN183_ok tyN247_ok
theorem tyN55_ok : TrOk TyQ tyN55 32 55 := TrOk.node ⟨Tryz.type55, by kernel_rfl⟩ tyN87_ok tyN119_ok
theorem tyN23_ok : TrOk TyQ tyN23 16 23 := TrOk.node ⟨Tryz.type23, by kernel_rfl⟩ tyN39_ok tyN55_ok
theorem tyN7_ok : TrOk TyQ tyN7 8 7 := TrOk.node ⟨Tryz.type7, by kernel_rfl⟩ tyN15_ok tyN23_ok
theorem tyN259_ok : TrOk TyQ tyN259 256 259 := TrOk.node ⟨Tryz.type259, by kernel_rfl⟩ TrOk.nil TrOk.nil
theorem tyN131_ok : TrOk TyQ tyN131 128 131 := TrOk.node ⟨Tryz.type131, by kernel_rfl⟩ tyN259_ok TrOk.nil
theorem tyN195_ok : TrOk TyQ tyN195 128 195 := TrOk.node ⟨Tryz.type195, by kernel_rfl⟩ TrOk.nil TrOk.nil
theorem tyN67_ok : TrOk TyQ tyN67 64 67 := TrOk.node ⟨Tryz.type67, by kernel_rfl⟩ tyN131_ok tyN195_ok
theorem tyN163_ok : TrOk TyQ tyN163 128 163 := TrOk.node ⟨Tryz.type163, by kernel_rfl⟩ TrOk.nil TrOk.nil
theorem tyN227_ok : TrOk TyQ tyN227 128 227 := TrOk.node ⟨Tryz.type227, by kernel_rfl⟩ TrOk.nil TrOk.nil
theorem tyN99_ok : TrOk TyQ tyN99 64 99 := TrOk.node ⟨Tryz.type99, by kernel_rfl⟩ tyN163_ok tyN227_ok
theorem tyN35_ok : TrOk TyQ tyN35 32 35 := TrOk.node ⟨Tryz.type35, by kernel_rfl⟩ tyN67_ok tyN99_ok
theorem tyN275_ok : TrOk TyQ tyN275 256 275 := TrOk.node ⟨Tryz.type275, by kernel_rfl⟩ TrOk.nil TrOk.nil
theorem tyN147_ok : TrOk TyQ tyN147 128 147 := TrOk.node ⟨Tryz.type147, by kernel_rfl⟩ tyN275_ok TrOk.nil
theorem tyN211_ok : TrOk TyQ tyN211 128 211 := TrOk.node ⟨Tryz.type211, by kernel_rfl⟩ TrOk.nil TrOk.nil
theorem tyN83_ok : TrOk TyQ tyN83 64 83 := TrOk.node ⟨Tryz.type83, by kernel_rfl⟩ tyN147_ok tyN211_ok
theorem tyN179_ok : TrOk TyQ tyN179 128 179 := TrOk.node ⟨Tryz.type179, by kernel_rfl⟩ TrOk.nil TrOk.nil
theorem tyN243_ok : TrOk TyQ tyN243 128 243 := TrOk.node ⟨Tryz.type243, by kernel_rfl⟩ TrOk.nil TrOk.nil
theorem tyN115_ok : TrOk TyQ tyN115 64 115 := TrOk.node ⟨Tryz.type115, by kernel_rfl⟩ tyN179_ok tyN243_ok
theorem tyN51_ok : TrOk TyQ tyN51 32 51 := TrOk.node ⟨Tryz.type51, by kernel_rfl⟩ tyN83_ok tyN115_ok
theorem tyN19_ok : TrOk TyQ tyN19 16 19 := TrOk.node ⟨Tryz.type19, by kernel_rfl⟩ tyN35_ok tyN51_ok
theorem tyN267_ok : TrOk TyQ tyN267 256 267 := TrOk.node ⟨Tryz.type267, by kernel_rfl⟩ TrOk.nil TrOk.nil
theorem tyN139_ok : TrOk TyQ tyN139 128 139 := TrOk.node ⟨Tryz.type139, by kernel_rfl⟩ tyN267_ok TrOk.nil
theorem tyN203_ok : TrOk TyQ tyN203 128 203 := TrOk.node ⟨Tryz.type203, by kernel_rfl⟩ TrOk.nil TrOk.nil
theorem tyN75_ok : TrOk TyQ tyN75 64 75 := TrOk.node ⟨Tryz.type75, by kernel_rfl⟩ tyN139_ok tyN203_ok
theorem tyN171_ok : TrOk TyQ tyN171 128 171 := TrOk.node ⟨Tryz.type171, by kernel_rfl⟩ TrOk.nil TrOk.nil
theorem tyN235_ok : TrOk TyQ tyN235 128 235 := TrOk.node ⟨Tryz.type235, by kernel_rfl⟩ TrOk.nil TrOk.nil
theorem tyN107_ok : TrOk TyQ tyN107 64 107 := TrOk.node ⟨Tryz.type107, by kernel_rfl⟩ tyN171_ok tyN235_ok
theorem tyN43_ok : TrOk TyQ tyN43 32 43 := TrOk.node ⟨Tryz.type43, by kernel_rfl⟩ tyN75_ok tyN107_ok
theorem tyN155_ok : TrOk TyQ tyN155 128 155 := TrOk.node ⟨Tryz.type155, by kernel_rfl⟩ TrOk.nil TrOk.nil
theorem tyN219_ok : TrOk TyQ tyN219 128 219 := TrOk.node ⟨Tryz.type219, by kernel_rfl⟩ TrOk.nil TrOk.nil
theorem tyN91_ok : TrOk TyQ tyN91 64 91 := TrOk.node ⟨Tryz.type91, by kernel_rfl⟩ tyN155_ok tyN219_ok
theorem tyN187_ok : TrOk TyQ tyN187 128 187 := TrOk.node ⟨Tryz.type187, by kernel_rfl⟩ TrOk.nil TrOk.nil
theorem tyN251_ok : TrOk TyQ tyN251 128 251 := TrOk.node ⟨Tryz.type251, by kernel_rfl⟩ TrOk.nil TrOk.nil
theorem tyN123_ok : TrOk TyQ tyN123 64 123 := TrOk.node ⟨Tryz.type123, by kernel_rfl⟩ tyN187_ok tyN251_ok
theorem tyN59_ok : TrOk TyQ tyN59 32 59 := TrOk.node ⟨Tryz.type59, by kernel_rfl⟩ tyN91_ok tyN123_ok
theorem tyN27_ok : TrOk TyQ tyN27 16 27 := TrOk.node ⟨Tryz.type27, by kernel_rfl⟩ tyN43_ok tyN59_ok
theorem tyN11_ok : TrOk TyQ tyN11 8 11 := TrOk.node ⟨Tryz.type11, by kernel_rfl⟩ tyN19_ok tyN27_ok
theorem tyN3_ok : TrOk TyQ tyN3 4 3 := TrOk.node ⟨Tryz.type3, by kernel_rfl⟩ tyN7_ok tyN11_ok
theorem tyN257_ok : TrOk TyQ tyN257 256 257 := TrOk.node ⟨Tryz.type257, by kernel_rfl⟩ TrOk.nil TrOk.nil
theorem tyN129_ok : TrOk TyQ tyN129 128 129 := TrOk.node ⟨Tryz.type129, by kernel_rfl⟩ tyN257_ok TrOk.nil
theorem tyN193_ok : TrOk TyQ tyN193 128 193 := TrOk.node ⟨Tryz.type193, by kernel_rfl⟩ TrOk.nil TrOk.nil
theorem tyN65_ok : TrOk TyQ tyN65 64 65 := TrOk.node ⟨Tryz.type65, by kernel_rfl⟩ tyN129_ok tyN193_ok
theorem tyN161_ok : TrOk TyQ tyN161 128 161 := TrOk.node ⟨Tryz.type161, by kernel_rfl⟩ TrOk.nil TrOk.nil
theorem tyN225_ok : TrOk TyQ tyN225 128 225 := TrOk.node ⟨Tryz.type225, by kernel_rfl⟩ TrOk.nil TrOk.nil
theorem tyN97_ok : TrOk TyQ tyN97 64 97 := TrOk.node ⟨Tryz.type97, by kernel_rfl⟩ tyN161_ok tyN225_ok
theorem tyN33_ok : TrOk TyQ tyN33 32 33 := TrOk.node ⟨Tryz.type33, by kernel_rfl⟩ tyN65_ok tyN97_ok
theorem tyN273_ok : TrOk TyQ tyN273 256 273 := TrOk.node ⟨Tryz.type273, by kernel_rfl⟩ TrOk.nil TrOk.nil
theorem tyN145_ok : TrOk TyQ tyN145 128 145 := TrOk.node ⟨Tryz.type145, by kernel_rfl⟩ tyN273_ok TrOk.nil
theorem tyN209_ok : TrOk TyQ tyN209 128 209 := TrOk.node ⟨Tryz.type209, by kernel_rfl⟩ TrOk.nil TrOk.nil
theorem tyN81_ok : TrOk TyQ tyN81 64 81 := TrOk.node ⟨Tryz.type81, by kernel_rfl⟩ tyN145_ok tyN209_ok
theorem tyN177_ok : TrOk TyQ tyN177 128 177 := TrOk.node ⟨Tryz.type177, by kernel_rfl⟩ TrOk.nil TrOk.nil
theorem tyN241_ok : TrOk TyQ tyN241 128 241 := TrOk.node ⟨Tryz.type241, by kernel_rfl⟩ TrOk.nil TrOk.nil
theorem tyN113_ok : TrOk TyQ tyN113 64 113 := TrOk.node ⟨Tryz.type113, by kernel_rfl⟩ tyN177_ok tyN241_ok
theorem tyN49_ok : TrOk TyQ tyN49 32 49 := TrOk.node ⟨Tryz.type49, by kernel_rfl⟩ tyN81_ok tyN113_ok
theorem tyN17_ok : TrOk TyQ tyN17 16 17 := TrOk.node ⟨Tryz.type17, by kernel_rfl⟩ tyN33_ok tyN49_ok
theorem tyN265_ok : TrOk TyQ tyN265 256 265 := TrOk.node ⟨Tryz.type265, by kernel_rfl⟩ TrOk.nil TrOk.nil
theorem tyN137_ok : TrOk TyQ tyN137 128 137 := TrOk.node ⟨Tryz.type137, by kernel_rfl⟩ tyN265_ok TrOk.nil
theorem tyN201_ok : TrOk TyQ tyN201 128 201 := TrOk.node ⟨Tryz.type201, by kernel_rfl⟩ TrOk.nil TrOk.nil
theorem tyN73_ok : TrOk TyQ tyN73 64 73 := TrOk.node ⟨Tryz.type73, by kernel_rfl⟩ tyN137_ok tyN201_ok
theorem tyN169_ok : TrOk TyQ tyN169 128 169 := TrOk.node ⟨Tryz.type169, by kernel_rfl⟩ TrOk.nil TrOk.nil
theorem tyN233_ok : TrOk TyQ tyN233 128 233 := TrOk.node ⟨Tryz.type233, by kernel_rfl⟩ TrOk.nil TrOk.nil
theorem tyN105_ok : TrOk TyQ tyN105 64 105 := TrOk.node ⟨Tryz.type105, by kernel_rfl⟩ tyN169_ok tyN233_ok
theorem tyN41_ok : TrOk TyQ tyN41 32 41 := TrOk.node ⟨Tryz.type41, by kernel_rfl⟩ tyN73_ok tyN105_ok
theorem tyN281_ok : TrOk TyQ tyN281 256 281 := TrOk.node ⟨Tryz.type281, by kernel_rfl⟩ TrOk.nil TrOk.nil
theorem tyN153_ok : TrOk TyQ tyN153 128 153 := TrOk.node ⟨Tryz.type153, by kernel_rfl⟩ tyN281_ok TrOk.nil
theorem tyN217_ok : TrOk TyQ tyN217 128 217 := TrOk.node ⟨Tryz.type217, by kernel_rfl⟩ TrOk.nil TrOk.nil
theorem tyN89_ok : TrOk TyQ tyN89 64 89 := TrOk.node ⟨Tryz.type89, by kernel_rfl⟩ tyN153_ok tyN217_ok
theorem tyN185_ok : TrOk TyQ tyN185 128 185 := TrOk.node ⟨Tryz.type185, by kernel_rfl⟩ TrOk.nil TrOk.nil
theorem tyN249_ok : TrOk TyQ tyN249 128 249 := TrOk.node ⟨Tryz.type249, by kernel_rfl⟩ TrOk.nil TrOk.nil
theorem tyN121_ok : TrOk TyQ tyN121 64 121 := TrOk.node ⟨Tryz.type121, by kernel_rfl⟩ tyN185_ok tyN249_ok
theorem tyN57_ok : TrOk TyQ tyN57 32 57 := TrOk.node ⟨Tryz.type57, by kernel_rfl⟩ tyN89_ok tyN121_ok
theorem tyN25_ok : TrOk TyQ tyN25 16 25 := TrOk.node ⟨Tryz.type25, by kernel_rfl⟩ tyN41_ok tyN57_ok
theorem tyN9_ok : TrOk TyQ tyN9 8 9 := TrOk.node ⟨Tryz.type9, by kernel_rfl⟩ tyN17_ok tyN25_ok
theorem tyN261_ok : TrOk TyQ tyN261 256 261 := TrOk.node ⟨Tryz.type261, by kernel_rfl⟩ TrOk.nil TrOk.nil
theorem tyN133_ok : TrOk TyQ tyN133 128 133 := TrOk.node ⟨Tryz.type133, by kernel_rfl⟩ tyN261_ok TrOk.nil
theorem tyN197_ok : TrOk TyQ tyN197 128 197 := TrOk.node ⟨Tryz.type197, by kernel_rfl⟩ TrOk.nil TrOk.nil
theorem tyN69_ok : TrOk TyQ tyN69 64 69 := TrOk.node ⟨Tryz.type69, by kernel_rfl⟩ tyN133_ok tyN197_ok
theorem tyN165_ok : TrOk TyQ tyN165 128 165 := TrOk.node ⟨Tryz.type165, by kernel_rfl⟩ TrOk.nil TrOk.nil
theorem tyN229_ok : TrOk TyQ tyN229 128 229 := TrOk.node ⟨Tryz.type229, by kernel_rfl⟩ TrOk.nil TrOk.nil
theorem tyN101_ok : TrOk TyQ tyN101 64 101 := TrOk.node ⟨Tryz.type101, by kernel_rfl⟩ tyN165_ok tyN229_ok
theorem tyN37_ok : TrOk TyQ tyN37 32 37 := TrOk.node ⟨Tryz.type37, by kernel_rfl⟩ tyN69_ok tyN101_ok
theorem tyN277_ok : TrOk TyQ tyN277 256 277 := TrOk.node ⟨Tryz.type277, by kernel_rfl⟩ TrOk.nil TrOk.nil
theorem tyN149_ok : TrOk TyQ tyN149 128 149 := TrOk.node ⟨Tryz.type149, by kernel_rfl⟩ tyN277_ok TrOk.nil
theorem tyN213_ok : TrOk TyQ tyN213 128 213 := TrOk.node ⟨Tryz.type213, by kernel_rfl⟩ TrOk.nil TrOk.nil
theorem tyN85_ok : TrOk TyQ tyN85 64 85 := TrOk.node ⟨Tryz.type85, by kernel_rfl⟩ tyN149_ok tyN213_ok
theorem tyN181_ok : TrOk TyQ tyN181 128 181 := TrOk.node ⟨Tryz.type181, by kernel_rfl⟩ TrOk.nil TrOk.nil
theorem tyN245_ok : TrOk TyQ tyN245 128 245 := TrOk.node ⟨Tryz.type245, by kernel_rfl⟩ TrOk.nil TrOk.nil
theorem tyN117_ok : TrOk TyQ tyN117 64 117 := TrOk.node ⟨Tryz.type117, by kernel_rfl⟩ tyN181_ok tyN245_ok
theorem tyN53_ok : TrOk TyQ tyN53 32 53 := TrOk.node ⟨Tryz.type53, by kernel_rfl⟩ tyN85_ok tyN117_ok
theorem tyN21_ok : TrOk TyQ tyN21 16 21 := TrOk.node ⟨Tryz.type21, by kernel_rfl⟩ tyN37_ok tyN53_ok
theorem tyN269_ok : TrOk TyQ tyN269 256 269 := TrOk.node ⟨Tryz.type269, by kernel_rfl⟩ TrOk.nil TrOk.nil
theorem tyN141_ok : TrOk TyQ tyN141 128 141 := TrOk.node ⟨Tryz.type141, by kernel_rfl⟩ tyN269_ok TrOk.nil
theorem tyN205_ok : TrOk TyQ tyN205 128 205 := TrOk.node ⟨Tryz.type205, by kernel_rfl⟩ TrOk.nil TrOk.nil
theorem tyN77_ok : TrOk TyQ tyN77 64 77 := TrOk.node ⟨Tryz.type77, by kernel_rfl⟩ tyN141_ok tyN205_ok
theorem tyN173_ok : TrOk TyQ tyN173 128 173 := TrOk.node ⟨Tryz.type173, by kernel_rfl⟩ TrOk.nil TrOk.nil
theorem tyN237_ok : TrOk TyQ tyN237 128 237 := TrOk.node ⟨Tryz.type237, by kernel_rfl⟩ TrOk.nil TrOk.nil
theorem tyN109_ok : TrOk TyQ tyN109 64 109 := TrOk.node ⟨Tryz.type109, by kernel_rfl⟩ tyN173_ok tyN237_ok
theorem tyN45_ok : TrOk TyQ tyN45 32 45 := TrOk.node ⟨Tryz.type45, by kernel_rfl⟩ tyN77_ok tyN109_ok
theorem tyN157_ok : TrOk TyQ tyN157 128 157 := TrOk.node ⟨Tryz.type157, by kernel_rfl⟩ TrOk.nil TrOk.nil
theorem tyN221_ok : TrOk TyQ tyN221 128 221 := TrOk.node ⟨Tryz.type221, by kernel_rfl⟩ TrOk.nil TrOk.nil
theorem tyN93_ok : TrOk TyQ tyN93 64 93 := TrOk.node ⟨Tryz.type93, by kernel_rfl⟩ tyN157_ok tyN221_ok
theorem tyN189_ok : TrOk TyQ tyN189 128 189 := TrOk.node ⟨Tryz.type189, by kernel_rfl⟩ TrOk.nil TrOk.nil
theorem tyN253_ok : TrOk TyQ tyN253 128 253 := TrOk.node ⟨Tryz.type253, by kernel_rfl⟩ TrOk.nil TrOk.nil
theorem tyN125_ok : TrOk TyQ tyN125 64 125 := TrOk.node ⟨Tryz.type125, by kernel_rfl⟩ tyN189_ok tyN253_ok
theorem tyN61_ok : TrOk TyQ tyN61 32 61 := TrOk.node ⟨Tryz.type61, by kernel_rfl⟩ tyN93_ok tyN125_ok
theorem tyN29_ok : TrOk TyQ tyN29 16 29 := TrOk.node ⟨Tryz.type29, by kernel_rfl⟩ tyN45_ok tyN61_ok
theorem tyN13_ok : TrOk TyQ tyN13 8 13 := TrOk.node ⟨Tryz.type13, by kernel_rfl⟩ tyN21_ok tyN29_ok
theorem tyN5_ok : TrOk TyQ tyN5 4 5 := TrOk.node ⟨Tryz.type5, by kernel_rfl⟩ tyN9_ok tyN13_ok
theorem tyN1_ok : TrOk TyQ tyN1 2 1 := TrOk.node ⟨Tryz.type1, by kernel_rfl⟩ tyN3_ok tyN5_ok
theorem tyN256_ok : TrOk TyQ tyN256 256 256 := TrOk.node ⟨Tryz.type256, by kernel_rfl⟩ TrOk.nil TrOk.nil
theorem tyN128_ok : TrOk TyQ tyN128 128 128 := TrOk.node ⟨Tryz.type128, by kernel_rfl⟩ tyN256_ok TrOk.nil
theorem tyN192_ok : TrOk TyQ tyN192 128 192 := TrOk.node ⟨Tryz.type192, by kernel_rfl⟩ TrOk.nil TrOk.nil
theorem tyN64_ok : TrOk TyQ tyN64 64 64 := TrOk.node ⟨Tryz.type64, by kernel_rfl⟩ tyN128_ok tyN192_ok
theorem tyN160_ok : TrOk TyQ tyN160 128 160 := TrOk.node ⟨Tryz.type160, by kernel_rfl⟩ TrOk.nil TrOk.nil
theorem tyN224_ok : TrOk TyQ tyN224 128 224 := TrOk.node ⟨Tryz.type224, by kernel_rfl⟩ TrOk.nil TrOk.nil
theorem tyN96_ok : TrOk TyQ tyN96 64 96 := TrOk.node ⟨Tryz.type96, by kernel_rfl⟩ tyN160_ok tyN224_ok
theorem tyN32_ok : TrOk TyQ tyN32 32 32 := TrOk.node ⟨Tryz.type32, by kernel_rfl⟩ tyN64_ok tyN96_ok
theorem tyN272_ok : TrOk TyQ tyN272 256 272 := TrOk.node ⟨Tryz.type272, by kernel_rfl⟩ TrOk.nil TrOk.nil
theorem tyN144_ok : TrOk TyQ tyN144 128 144 := TrOk.node ⟨Tryz.type144, by kernel_rfl⟩ tyN272_ok TrOk.nil
theorem tyN208_ok : TrOk TyQ tyN208 128 208 := TrOk.node ⟨Tryz.type208, by kernel_rfl⟩ TrOk.nil TrOk.nil
theorem tyN80_ok : TrOk TyQ tyN80 64 80 := TrOk.node ⟨Tryz.type80, by kernel_rfl⟩ tyN144_ok tyN208_ok
theorem tyN176_ok : TrOk TyQ tyN176 128 176 := TrOk.node ⟨Tryz.type176, by kernel_rfl⟩ TrOk.nil TrOk.nil
theorem tyN240_ok : TrOk TyQ tyN240 128 240 := TrOk.node ⟨Tryz.type240, by kernel_rfl⟩ TrOk.nil TrOk.nil
theorem tyN112_ok : TrOk TyQ tyN112 64 112 := TrOk.node ⟨Tryz.type112, by kernel_rfl⟩ tyN176_ok tyN240_ok
theorem tyN48_ok : TrOk TyQ tyN48 32 48 := TrOk.node ⟨Tryz.type48, by kernel_rfl⟩ tyN80_ok tyN112_ok
theorem tyN16_ok : TrOk TyQ tyN16 16 16 := TrOk.node ⟨Tryz.type16, by kernel_rfl⟩ tyN32_ok tyN48_ok
theorem tyN264_ok : TrOk TyQ tyN264 256 264 := TrOk.node ⟨Tryz.type264, by kernel_rfl⟩ TrOk.nil TrOk.nil
theorem tyN136_ok : TrOk TyQ tyN136 128 136 := TrOk.node ⟨Tryz.type136, by kernel_rfl⟩ tyN264_ok TrOk.nil
theorem tyN200_ok : TrOk TyQ tyN200 128 200 := TrOk.node ⟨Tryz.type200, by kernel_rfl⟩ TrOk.nil TrOk.nil
theorem tyN72_ok : TrOk TyQ tyN72 64 72 := TrOk.node ⟨Tryz.type72, by kernel_rfl⟩ tyN136_ok tyN200_ok
theorem tyN168_ok : TrOk TyQ tyN168 128 168 := TrOk.node ⟨Tryz.type168, by kernel_rfl⟩ TrOk.nil TrOk.nil
theorem tyN232_ok : TrOk TyQ tyN232 128 232 := TrOk.node ⟨Tryz.type232, by kernel_rfl⟩ TrOk.nil TrOk.nil
theorem tyN104_ok : TrOk TyQ tyN104 64 104 := TrOk.node ⟨Tryz.type104, by kernel_rfl⟩ tyN168_ok tyN232_ok
theorem tyN40_ok : TrOk TyQ tyN40 32 40 := TrOk.node ⟨Tryz.type40, by kernel_rfl⟩ tyN72_ok tyN104_ok
theorem tyN280_ok : TrOk TyQ tyN280 256 280 := TrOk.node ⟨Tryz.type280, by kernel_rfl⟩ TrOk.nil TrOk.nil
theorem tyN152_ok : TrOk TyQ tyN152 128 152 := TrOk.node ⟨Tryz.type152, by kernel_rfl⟩ tyN280_ok TrOk.nil
theorem tyN216_ok : TrOk TyQ tyN216 128 216 := TrOk.node ⟨Tryz.type216, by kernel_rfl⟩ TrOk.nil TrOk.nil
theorem tyN88_ok : TrOk TyQ tyN88 64 88 := TrOk.node ⟨Tryz.type88, by kernel_rfl⟩ tyN152_ok tyN216_ok
theorem tyN184_ok : TrOk TyQ tyN184 128 184 := TrOk.node ⟨Tryz.type184, by kernel_rfl⟩ TrOk.nil TrOk.nil
theorem tyN248_ok : TrOk TyQ tyN248 128 248 := TrOk.node ⟨Tryz.type248, by kernel_rfl⟩ TrOk.nil TrOk.nil
theorem tyN120_ok : TrOk TyQ tyN120 64 120 := TrOk.node ⟨Tryz.type120, by kernel_rfl⟩ tyN184_ok tyN248_ok
theorem tyN56_ok : TrOk TyQ tyN56 32 56 := TrOk.node ⟨Tryz.type56, by kernel_rfl⟩ tyN88_ok tyN120_ok
theorem tyN24_ok : TrOk TyQ tyN24 16 24 := TrOk.node ⟨Tryz.type24, by kernel_rfl⟩ tyN40_ok tyN56_ok
theorem tyN8_ok : TrOk TyQ tyN8 8 8 := TrOk.node ⟨Tryz.type8, by kernel_rfl⟩ tyN16_ok tyN24_ok
theorem tyN260_ok : TrOk TyQ tyN260 256 260 := TrOk.node ⟨Tryz.type260, by kernel_rfl⟩ TrOk.nil TrOk.nil
theorem tyN132_ok : TrOk TyQ tyN132 128 132 := TrOk.node ⟨Tryz.type132, by kernel_rfl⟩ tyN260_ok TrOk.nil
theorem tyN196_ok : TrOk TyQ tyN196 128 196 := TrOk.node ⟨Tryz.type196, by kernel_rfl⟩ TrOk.nil TrOk.nil
theorem tyN68_ok : TrOk TyQ tyN68 64 68 := TrOk.node ⟨Tryz.type68, by kernel_rfl⟩ tyN132_ok tyN196_ok
theorem tyN164_ok : TrOk TyQ tyN164 128 164 := TrOk.node ⟨Tryz.type164, by kernel_rfl⟩ TrOk.nil TrOk.nil
theorem tyN228_ok : TrOk TyQ tyN228 128 228 := TrOk.node ⟨Tryz.type228, by kernel_rfl⟩ TrOk.nil TrOk.nil
theorem tyN100_ok : TrOk TyQ tyN100 64 100 := TrOk.node ⟨Tryz.type100, by kernel_rfl⟩ tyN164_ok tyN228_ok
theorem tyN36_ok : TrOk TyQ tyN36 32 36 := TrOk.node ⟨Tryz.type36, by kernel_rfl⟩ tyN68_ok tyN100_ok
theorem tyN276_ok : TrOk TyQ tyN276 256 276 := TrOk.node ⟨Tryz.type276, by kernel_rfl⟩ TrOk.nil TrOk.nil
theorem tyN148_ok : TrOk TyQ tyN148 128 148 := TrOk.node ⟨Tryz.type148, by kernel_rfl⟩ tyN276_ok TrOk.nil
theorem tyN212_ok : TrOk TyQ tyN212 128 212 := TrOk.node ⟨Tryz.type212, by kernel_rfl⟩ TrOk.nil TrOk.nil
theorem tyN84_ok : TrOk TyQ tyN84 64 84 := TrOk.node ⟨Tryz.type84, by kernel_rfl⟩ tyN148_ok tyN212_ok
theorem tyN180_ok : TrOk TyQ tyN180 128 180 := TrOk.node ⟨Tryz.type180, by kernel_rfl⟩ TrOk.nil TrOk.nil
theorem tyN244_ok : TrOk TyQ tyN244 128 244 := TrOk.node ⟨Tryz.type244, by kernel_rfl⟩ TrOk.nil TrOk.nil
theorem tyN116_ok : TrOk TyQ tyN116 64 116 := TrOk.node ⟨Tryz.type116, by kernel_rfl⟩ tyN180_ok tyN244_ok
theorem tyN52_ok : TrOk TyQ tyN52 32 52 := TrOk.node ⟨Tryz.type52, by kernel_rfl⟩ tyN84_ok tyN116_ok
theorem tyN20_ok : TrOk TyQ tyN20 16 20 := TrOk.node ⟨Tryz.type20, by kernel_rfl⟩ tyN36_ok tyN52_ok
theorem tyN268_ok : TrOk TyQ tyN268 256 268 := TrOk.node ⟨Tryz.type268, by kernel_rfl⟩ TrOk.nil TrOk.nil
theorem tyN140_ok : TrOk TyQ tyN140 128 140 := TrOk.node ⟨Tryz.type140, by kernel_rfl⟩ tyN268_ok TrOk.nil
theorem tyN204_ok : TrOk TyQ tyN204 128 204 := TrOk.node ⟨Tryz.type204, by kernel_rfl⟩ TrOk.nil TrOk.nil
theorem tyN76_ok : TrOk TyQ tyN76 64 76 := TrOk.node ⟨Tryz.type76, by kernel_rfl⟩ tyN140_ok tyN204_ok
theorem tyN172_ok : TrOk TyQ tyN172 128 172 := TrOk.node ⟨Tryz.type172, by kernel_rfl⟩ TrOk.nil TrOk.nil
theorem tyN236_ok : TrOk TyQ tyN236 128 236 := TrOk.node ⟨Tryz.type236, by kernel_rfl⟩ TrOk.nil TrOk.nil
theorem tyN108_ok : TrOk TyQ tyN108 64 108 := TrOk.node ⟨Tryz.type108, by kernel_rfl⟩ tyN172_ok tyN236_ok
theorem tyN44_ok : TrOk TyQ tyN44 32 44 := TrOk.node ⟨Tryz.type44, by kernel_rfl⟩ tyN76_ok tyN108_ok
theorem tyN156_ok : TrOk TyQ tyN156 128 156 := TrOk.node ⟨Tryz.type156, by kernel_rfl⟩ TrOk.nil TrOk.nil
theorem tyN220_ok : TrOk TyQ tyN220 128 220 := TrOk.node ⟨Tryz.type220, by kernel_rfl⟩ TrOk.nil TrOk.nil
theorem tyN92_ok : TrOk TyQ tyN92 64 92 := TrOk.node ⟨Tryz.type92, by kernel_rfl⟩ tyN156_ok tyN220_ok
theorem tyN188_ok : TrOk TyQ tyN188 128 188 := TrOk.node ⟨Tryz.type188, by kernel_rfl⟩ TrOk.nil TrOk.nil
theorem tyN252_ok : TrOk TyQ tyN252 128 252 := TrOk.node ⟨Tryz.type252, by kernel_rfl⟩ TrOk.nil TrOk.nil
theorem tyN124_ok : TrOk TyQ tyN124 64 124 := TrOk.node ⟨Tryz.type124, by kernel_rfl⟩ tyN188_ok tyN252_ok
theorem tyN60_ok : TrOk TyQ tyN60 32 60 := TrOk.node ⟨Tryz.type60, by kernel_rfl⟩ tyN92_ok tyN124_ok
theorem tyN28_ok : TrOk TyQ tyN28 16 28 := TrOk.node ⟨Tryz.type28, by kernel_rfl⟩ tyN44_ok tyN60_ok
theorem tyN12_ok : TrOk TyQ tyN12 8 12 := TrOk.node ⟨Tryz.type12, by kernel_rfl⟩ tyN20_ok tyN28_ok
theorem tyN4_ok : TrOk TyQ tyN4 4 4 := TrOk.node ⟨Tryz.type4, by kernel_rfl⟩ tyN8_ok tyN12_ok
theorem tyN258_ok : TrOk TyQ tyN258 256 258 := TrOk.node ⟨Tryz.type258, by kernel_rfl⟩ TrOk.nil TrOk.nil
theorem tyN130_ok : TrOk TyQ tyN130 128 130 := TrOk.node ⟨Tryz.type130, by kernel_rfl⟩ tyN258_ok TrOk.nil
theorem tyN194_ok : TrOk TyQ tyN194 128 194 := TrOk.node ⟨Tryz.type194, by kernel_rfl⟩ TrOk.nil TrOk.nil
theorem tyN66_ok : TrOk TyQ tyN66 64 66 := TrOk.node ⟨Tryz.type66, by kernel_rfl⟩ tyN130_ok tyN194_ok
theorem tyN162_ok : TrOk TyQ tyN162 128 162 := TrOk.node ⟨Tryz.type162, by kernel_rfl⟩ TrOk.nil TrOk.nil
theorem tyN226_ok : TrOk TyQ tyN226 128 226 := TrOk.node ⟨Tryz.type226, by kernel_rfl⟩ TrOk.nil TrOk.nil
theorem tyN98_ok : TrOk TyQ tyN98 64 98 := TrOk.node ⟨Tryz.type98, by kernel_rfl⟩ tyN162_ok tyN226_ok
theorem tyN34_ok : TrOk TyQ tyN34 32 34 := TrOk.node ⟨Tryz.type34, by kernel_rfl⟩ tyN66_ok tyN98_ok
theorem tyN274_ok : TrOk TyQ tyN274 256 274 := TrOk.node ⟨Tryz.type274, by kernel_rfl⟩ TrOk.nil TrOk.nil
theorem tyN146_ok : TrOk TyQ tyN146 128 146 := TrOk.node ⟨Tryz.type146, by kernel_rfl⟩ tyN274_ok TrOk.nil
theorem tyN210_ok : TrOk TyQ tyN210 128 210 := TrOk.node ⟨Tryz.type210, by kernel_rfl⟩ TrOk.nil TrOk.nil
theorem tyN82_ok : TrOk TyQ tyN82 64 82 := TrOk.node ⟨Tryz.type82, by kernel_rfl⟩ tyN146_ok tyN210_ok
theorem tyN178_ok : TrOk TyQ tyN178 128 178 := TrOk.node ⟨Tryz.type178, by kernel_rfl⟩ TrOk.nil TrOk.nil
theorem tyN242_ok : TrOk TyQ tyN242 128 242 := TrOk.node ⟨Tryz.type242, by kernel_rfl⟩ TrOk.nil TrOk.nil
theorem tyN114_ok : TrOk TyQ tyN114 64 114 := TrOk.node ⟨Tryz.type114, by kernel_rfl⟩ tyN178_ok tyN242_ok
theorem tyN50_ok : TrOk TyQ tyN50 32 50 := TrOk.node ⟨Tryz.type50, by kernel_rfl⟩ tyN82_ok tyN114_ok
theorem tyN18_ok : TrOk TyQ tyN18 16 18 := TrOk.node ⟨Tryz.type18, by kernel_rfl⟩ tyN34_ok tyN50_ok
theorem tyN266_ok : TrOk TyQ tyN266 256 266 := TrOk.node ⟨Tryz.type266, by kernel_rfl⟩ TrOk.nil TrOk.nil
theorem tyN138_ok : TrOk TyQ tyN138 128 138 := TrOk.node ⟨Tryz.type138, by kernel_rfl⟩ tyN266_ok TrOk.nil
theorem tyN202_ok : TrOk TyQ tyN202 128 202 := TrOk.node ⟨Tryz.type202, by kernel_rfl⟩ TrOk.nil TrOk.nil
theorem tyN74_ok : TrOk TyQ tyN74 64 74 := TrOk.node ⟨Tryz.type74, by kernel_rfl⟩ tyN138_ok tyN202_ok
theorem tyN170_ok : TrOk TyQ tyN170 128 170 := TrOk.node ⟨Tryz.type170, by kernel_rfl⟩ TrOk.nil TrOk.nil
theorem tyN234_ok : TrOk TyQ tyN234 128 234 := TrOk.node ⟨Tryz.type234, by kernel_rfl⟩ TrOk.nil TrOk.nil
theorem tyN106_ok : TrOk TyQ tyN106 64 106 := TrOk.node ⟨Tryz.type106, by kernel_rfl⟩ tyN170_ok tyN234_ok
theorem tyN42_ok : TrOk TyQ tyN42 32 42 := TrOk.node ⟨Tryz.type42, by kernel_rfl⟩ tyN74_ok tyN106_ok
theorem tyN282_ok : TrOk TyQ tyN282 256 282 := TrOk.node ⟨Tryz.type282, by kernel_rfl⟩ TrOk.nil TrOk.nil
theorem tyN154_ok : TrOk TyQ tyN154 128 154 := TrOk.node ⟨Tryz.type154, by kernel_rfl⟩ tyN282_ok TrOk.nil
theorem tyN218_ok : TrOk TyQ tyN218 128 218 := TrOk.node ⟨Tryz.type218, by kernel_rfl⟩ TrOk.nil TrOk.nil
theorem tyN90_ok : TrOk TyQ tyN90 64 90 := TrOk.node ⟨Tryz.type90, by kernel_rfl⟩ tyN154_ok tyN218_ok
theorem tyN186_ok : TrOk TyQ tyN186 128 186 := TrOk.node ⟨Tryz.type186, by kernel_rfl⟩ TrOk.nil TrOk.nil
theorem tyN250_ok : TrOk TyQ tyN250 128 250 := TrOk.node ⟨Tryz.type250, by kernel_rfl⟩ TrOk.nil TrOk.nil
theorem tyN122_ok : TrOk TyQ tyN122 64 122 := TrOk.node ⟨Tryz.type122, by kernel_rfl⟩ tyN186_ok tyN250_ok
theorem tyN58_ok : TrOk TyQ tyN58 32 58 := TrOk.node ⟨Tryz.type58, by kernel_rfl⟩ tyN90_ok tyN122_ok
theorem tyN26_ok : TrOk TyQ tyN26 16 26 := TrOk.node ⟨Tryz.type26, by kernel_rfl⟩ tyN42_ok tyN58_ok
theorem tyN10_ok : TrOk TyQ tyN10 8 10 := TrOk.node ⟨Tryz.type10, by kernel_rfl⟩ tyN18_ok tyN26_ok
theorem tyN262_ok : TrOk TyQ tyN262 256 262 := TrOk.node ⟨Tryz.type262, by kernel_rfl⟩ TrOk.nil TrOk.nil
theorem tyN134_ok : TrOk TyQ tyN134 128 134 := TrOk.node ⟨Tryz.type134, by kernel_rfl⟩ tyN262_ok TrOk.nil
theorem tyN198_ok : TrOk TyQ tyN198 128 198 := TrOk.node ⟨Tryz.type198, by kernel_rfl⟩ TrOk.nil TrOk.nil
theorem tyN70_ok : TrOk TyQ tyN70 64 70 := TrOk.node ⟨Tryz.type70, by kernel_rfl⟩ tyN134_ok tyN198_ok
theorem tyN166_ok : TrOk TyQ tyN166 128 166 := TrOk.node ⟨Tryz.type166, by kernel_rfl⟩ TrOk.nil TrOk.nil
theorem tyN230_ok : TrOk TyQ tyN230 128 230 := TrOk.node ⟨Tryz.type230, by kernel_rfl⟩ TrOk.nil TrOk.nil
theorem tyN102_ok : TrOk TyQ tyN102 64 102 := TrOk.node ⟨Tryz.type102, by kernel_rfl⟩ tyN166_ok tyN230_ok
theorem tyN38_ok : TrOk TyQ tyN38 32 38 := TrOk.node ⟨Tryz.type38, by kernel_rfl⟩ tyN70_ok tyN102_ok
theorem tyN278_ok : TrOk TyQ tyN278 256 278 := TrOk.node ⟨Tryz.type278, by kernel_rfl⟩ TrOk.nil TrOk.nil
theorem tyN150_ok : TrOk TyQ tyN150 128 150 := TrOk.node ⟨Tryz.type150, by kernel_rfl⟩ tyN278_ok TrOk.nil
theorem tyN214_ok : TrOk TyQ tyN214 128 214 := TrOk.node ⟨Tryz.type214, by kernel_rfl⟩ TrOk.nil TrOk.nil
theorem tyN86_ok : TrOk TyQ tyN86 64 86 := TrOk.node ⟨Tryz.type86, by kernel_rfl⟩ tyN150_ok tyN214_ok
theorem tyN182_ok : TrOk TyQ tyN182 128 182 := TrOk.node ⟨Tryz.type182, by kernel_rfl⟩ TrOk.nil TrOk.nil
theorem tyN246_ok : TrOk TyQ tyN246 128 246 := TrOk.node ⟨Tryz.type246, by kernel_rfl⟩ TrOk.nil TrOk.nil
theorem tyN118_ok : TrOk TyQ tyN118 64 118 := TrOk.node ⟨Tryz.type118, by kernel_rfl⟩ tyN182_ok tyN246_ok
theorem tyN54_ok : TrOk TyQ tyN54 32 54 := TrOk.node ⟨Tryz.type54, by kernel_rfl⟩ tyN86_ok tyN118_ok
theorem tyN22_ok : TrOk TyQ tyN22 16 22 := TrOk.node ⟨Tryz.type22, by kernel_rfl⟩ tyN38_ok tyN54_ok
theorem tyN270_ok : TrOk TyQ tyN270 256 270 := TrOk.node ⟨Tryz.type270, by kernel_rfl⟩ TrOk.nil TrOk.nil
theorem tyN142_ok : TrOk TyQ tyN142 128 142 := TrOk.node ⟨Tryz.type142, by kernel_rfl⟩ tyN270_ok TrOk.nil
theorem tyN206_ok : TrOk TyQ tyN206 128 206 := TrOk.node ⟨Tryz.type206, by kernel_rfl⟩ TrOk.nil TrOk.nil
theorem tyN78_ok : TrOk TyQ tyN78 64 78 := TrOk.node ⟨Tryz.type78, by kernel_rfl⟩ tyN142_ok tyN206_ok
theorem tyN174_ok : TrOk TyQ tyN174 128 174 := TrOk.node ⟨Tryz.type174, by kernel_rfl⟩ TrOk.nil TrOk.nil
theorem tyN238_ok : TrOk TyQ tyN238 128 238 := TrOk.node ⟨Tryz.type238, by kernel_rfl⟩ TrOk.nil TrOk.nil
theorem tyN110_ok : TrOk TyQ tyN110 64 110 := TrOk.node ⟨Tryz.type110, by kernel_rfl⟩ tyN174_ok tyN238_ok
theorem tyN46_ok : TrOk TyQ tyN46 32 46 := TrOk.node ⟨Tryz.type46, by kernel_rfl⟩ tyN78_ok tyN110_ok
theorem tyN158_ok : TrOk TyQ tyN158 128 158 := TrOk.node ⟨Tryz.type158, by kernel_rfl⟩ TrOk.nil TrOk.nil
theorem tyN222_ok : TrOk TyQ tyN222 128 222 := TrOk.node ⟨Tryz.type222, by kernel_rfl⟩ TrOk.nil TrOk.nil
theorem tyN94_ok : TrOk TyQ tyN94 64 94 := TrOk.node ⟨Tryz.type94, by kernel_rfl⟩ tyN158_ok tyN222_ok
theorem tyN190_ok : TrOk TyQ tyN190 128 190 := TrOk.node ⟨Tryz.type190, by kernel_rfl⟩ TrOk.nil TrOk.nil
theorem tyN254_ok : TrOk TyQ tyN254 128 254 := TrOk.node ⟨Tryz.type254, by kernel_rfl⟩ TrOk.nil TrOk.nil
theorem tyN126_ok : TrOk TyQ tyN126 64 126 := TrOk.node ⟨Tryz.type126, by kernel_rfl⟩ tyN190_ok tyN254_ok
theorem tyN62_ok : TrOk TyQ tyN62 32 62 := TrOk.node ⟨Tryz.type62, by kernel_rfl⟩ tyN94_ok tyN126_ok
theorem tyN30_ok : TrOk TyQ tyN30 16 30 := TrOk.node ⟨Tryz.type30, by kernel_rfl⟩ tyN46_ok tyN62_ok
theorem tyN14_ok : TrOk TyQ tyN14 8 14 := TrOk.node ⟨Tryz.type14, by kernel_rfl⟩ tyN22_ok tyN30_ok
theorem tyN6_ok : TrOk TyQ tyN6 4 6 := TrOk.node ⟨Tryz.type6, by kernel_rfl⟩ tyN10_ok tyN14_ok
theorem tyN2_ok : TrOk TyQ tyN2 2 2 := TrOk.node ⟨Tryz.type2, by kernel_rfl⟩ tyN4_ok tyN6_ok
theorem tyN0_ok : TrOk TyQ tyN0 1 0 := TrOk.node ⟨Tryz.type0, by kernel_rfl⟩ tyN1_ok tyN2_ok
theorem fnN127_ok : TrOk FnQ fnN127 128 127 := TrOk.node ⟨Tryz.func127, by kernel_rfl, by kernel_rfl⟩ TrOk.nil TrOk.nil
theorem fnN191_ok : TrOk FnQ fnN191 128 191 := TrOk.node ⟨Tryz.func191, by kernel_rfl, by kernel_rfl⟩ TrOk.nil TrOk.nil
theorem fnN63_ok : TrOk FnQ fnN63 64 63 := TrOk.node ⟨Tryz.func63, by kernel_rfl, by kernel_rfl⟩ fnN127_ok fnN191_ok
theorem fnN159_ok : TrOk FnQ fnN159 128 159 := TrOk.node ⟨Tryz.func159, by kernel_rfl, by kernel_rfl⟩ TrOk.nil TrOk.nil
theorem fnN95_ok : TrOk FnQ fnN95 64 95 := TrOk.node ⟨Tryz.func95, by kernel_rfl, by kernel_rfl⟩ fnN159_ok TrOk.nil
theorem fnN31_ok : TrOk FnQ fnN31 32 31 := TrOk.node ⟨Tryz.func31, by kernel_rfl, by kernel_rfl⟩ fnN63_ok fnN95_ok
theorem fnN143_ok : TrOk FnQ fnN143 128 143 := TrOk.node ⟨Tryz.func143, by kernel_rfl, by kernel_rfl⟩ TrOk.nil TrOk.nil
theorem fnN79_ok : TrOk FnQ fnN79 64 79 := TrOk.node ⟨Tryz.func79, by kernel_rfl, by kernel_rfl⟩ fnN143_ok TrOk.nil
theorem fnN175_ok : TrOk FnQ fnN175 128 175 := TrOk.node ⟨Tryz.func175, by kernel_rfl, by kernel_rfl⟩ TrOk.nil TrOk.nil
theorem fnN111_ok : TrOk FnQ fnN111 64 111 := TrOk.node ⟨Tryz.func111, by kernel_rfl, by kernel_rfl⟩ fnN175_ok TrOk.nil
theorem fnN47_ok : TrOk FnQ fnN47 32 47 := TrOk.node ⟨Tryz.func47, by kernel_rfl, by kernel_rfl⟩ fnN79_ok fnN111_ok
theorem fnN15_ok : TrOk FnQ fnN15 16 15 := TrOk.node ⟨Tryz.func15, by kernel_rfl, by kernel_rfl⟩ fnN31_ok fnN47_ok
theorem fnN135_ok : TrOk FnQ fnN135 128 135 := TrOk.node ⟨Tryz.func135, by kernel_rfl, by kernel_rfl⟩ TrOk.nil TrOk.nil
theorem fnN71_ok : TrOk FnQ fnN71 64 71 := TrOk.node ⟨Tryz.func71, by kernel_rfl, by kernel_rfl⟩ fnN135_ok TrOk.nil
theorem fnN167_ok : TrOk FnQ fnN167 128 167 := TrOk.node ⟨Tryz.func167, by kernel_rfl, by kernel_rfl⟩ TrOk.nil TrOk.nil
theorem fnN103_ok : TrOk FnQ fnN103 64 103 := TrOk.node ⟨Tryz.func103, by kernel_rfl, by kernel_rfl⟩ fnN167_ok TrOk.nil
theorem fnN39_ok : TrOk FnQ fnN39 32 39 := TrOk.node ⟨Tryz.func39, by kernel_rfl, by kernel_rfl⟩ fnN71_ok fnN103_ok
theorem fnN151_ok : TrOk FnQ fnN151 128 151 := TrOk.node ⟨Tryz.func151, by kernel_rfl, by kernel_rfl⟩ TrOk.nil TrOk.nil
theorem fnN87_ok : TrOk FnQ fnN87 64 87 := TrOk.node ⟨Tryz.func87, by kernel_rfl, by kernel_rfl⟩ fnN151_ok TrOk.nil
theorem fnN183_ok : TrOk FnQ fnN183 128 183 := TrOk.node ⟨Tryz.func183, by kernel_rfl, by kernel_rfl⟩ TrOk.nil TrOk.nil
theorem fnN119_ok : TrOk FnQ fnN119 64 119 := TrOk.node ⟨Tryz.func119, by kernel_rfl, by kernel_rfl⟩ fnN183_ok TrOk.nil
theorem fnN55_ok : TrOk FnQ fnN55 32 55 := TrOk.node ⟨Tryz.func55, by kernel_rfl, by kernel_rfl⟩ fnN87_ok fnN119_ok
theorem fnN23_ok : TrOk FnQ fnN23 16 23 := TrOk.node ⟨Tryz.func23, by kernel_rfl, by kernel_rfl⟩ fnN39_ok fnN55_ok
theorem fnN7_ok : TrOk FnQ fnN7 8 7 := TrOk.node ⟨Tryz.func7, by kernel_rfl, by kernel_rfl⟩ fnN15_ok fnN23_ok
theorem fnN131_ok : TrOk FnQ fnN131 128 131 := TrOk.node ⟨Tryz.func131, by kernel_rfl, by kernel_rfl⟩ TrOk.nil TrOk.nil
theorem fnN195_ok : TrOk FnQ fnN195 128 195 := TrOk.node ⟨Tryz.func195, by kernel_rfl, by kernel_rfl⟩ TrOk.nil TrOk.nil
theorem fnN67_ok : TrOk FnQ fnN67 64 67 := TrOk.node ⟨Tryz.func67, by kernel_rfl, by kernel_rfl⟩ fnN131_ok fnN195_ok
theorem fnN163_ok : TrOk FnQ fnN163 128 163 := TrOk.node ⟨Tryz.func163, by kernel_rfl, by kernel_rfl⟩ TrOk.nil TrOk.nil
theorem fnN99_ok : TrOk FnQ fnN99 64 99 := TrOk.node ⟨Tryz.func99, by kernel_rfl, by kernel_rfl⟩ fnN163_ok TrOk.nil
theorem fnN35_ok : TrOk FnQ fnN35 32 35 := TrOk.node ⟨Tryz.func35, by kernel_rfl, by kernel_rfl⟩ fnN67_ok fnN99_ok
theorem fnN147_ok : TrOk FnQ fnN147 128 147 := TrOk.node ⟨Tryz.func147, by kernel_rfl, by kernel_rfl⟩ TrOk.nil TrOk.nil
theorem fnN83_ok : TrOk FnQ fnN83 64 83 := TrOk.node ⟨Tryz.func83, by kernel_rfl, by kernel_rfl⟩ fnN147_ok TrOk.nil
theorem fnN179_ok : TrOk FnQ fnN179 128 179 := TrOk.node ⟨Tryz.func179, by kernel_rfl, by kernel_rfl⟩ TrOk.nil TrOk.nil
theorem fnN115_ok : TrOk FnQ fnN115 64 115 := TrOk.node ⟨Tryz.func115, by kernel_rfl, by kernel_rfl⟩ fnN179_ok TrOk.nil
theorem fnN51_ok : TrOk FnQ fnN51 32 51 := TrOk.node ⟨Tryz.func51, by kernel_rfl, by kernel_rfl⟩ fnN83_ok fnN115_ok
theorem fnN19_ok : TrOk FnQ fnN19 16 19 := TrOk.node ⟨Tryz.func19, by kernel_rfl, by kernel_rfl⟩ fnN35_ok fnN51_ok
theorem fnN139_ok : TrOk FnQ fnN139 128 139 := TrOk.node ⟨Tryz.func139, by kernel_rfl, by kernel_rfl⟩ TrOk.nil TrOk.nil
theorem fnN75_ok : TrOk FnQ fnN75 64 75 := TrOk.node ⟨Tryz.func75, by kernel_rfl, by kernel_rfl⟩ fnN139_ok TrOk.nil
theorem fnN171_ok : TrOk FnQ fnN171 128 171 := TrOk.node ⟨Tryz.func171, by kernel_rfl, by kernel_rfl⟩ TrOk.nil TrOk.nil
theorem fnN107_ok : TrOk FnQ fnN107 64 107 := TrOk.node ⟨Tryz.func107, by kernel_rfl, by kernel_rfl⟩ fnN171_ok TrOk.nil
theorem fnN43_ok : TrOk FnQ fnN43 32 43 := TrOk.node ⟨Tryz.func43, by kernel_rfl, by kernel_rfl⟩ fnN75_ok fnN107_ok
theorem fnN155_ok : TrOk FnQ fnN155 128 155 := TrOk.node ⟨Tryz.func155, by kernel_rfl, by kernel_rfl⟩ TrOk.nil TrOk.nil
theorem fnN91_ok : TrOk FnQ fnN91 64 91 := TrOk.node ⟨Tryz.func91, by kernel_rfl, by kernel_rfl⟩ fnN155_ok TrOk.nil
theorem fnN187_ok : TrOk FnQ fnN187 128 187 := TrOk.node ⟨Tryz.func187, by kernel_rfl, by kernel_rfl⟩ TrOk.nil TrOk.nil
theorem fnN123_ok : TrOk FnQ fnN123 64 123 := TrOk.node ⟨Tryz.func123, by kernel_rfl, by kernel_rfl⟩ fnN187_ok TrOk.nil
theorem fnN59_ok : TrOk FnQ fnN59 32 59 := TrOk.node ⟨Tryz.func59, by kernel_rfl, by kernel_rfl⟩ fnN91_ok fnN123_ok
theorem fnN27_ok : TrOk FnQ fnN27 16 27 := TrOk.node ⟨Tryz.func27, by kernel_rfl, by kernel_rfl⟩ fnN43_ok fnN59_ok
theorem fnN11_ok : TrOk FnQ fnN11 8 11 := TrOk.node ⟨Tryz.func11, by kernel_rfl, by kernel_rfl⟩ fnN19_ok fnN27_ok
theorem fnN3_ok : TrOk FnQ fnN3 4 3 := TrOk.node ⟨Tryz.func3, by kernel_rfl, by kernel_rfl⟩ fnN7_ok fnN11_ok
theorem fnN129_ok : TrOk FnQ fnN129 128 129 := TrOk.node ⟨Tryz.func129, by kernel_rfl, by kernel_rfl⟩ TrOk.nil TrOk.nil
theorem fnN193_ok : TrOk FnQ fnN193 128 193 := TrOk.node ⟨Tryz.func193, by kernel_rfl, by kernel_rfl⟩ TrOk.nil TrOk.nil
theorem fnN65_ok : TrOk FnQ fnN65 64 65 := TrOk.node ⟨Tryz.func65, by kernel_rfl, by kernel_rfl⟩ fnN129_ok fnN193_ok
theorem fnN161_ok : TrOk FnQ fnN161 128 161 := TrOk.node ⟨Tryz.func161, by kernel_rfl, by kernel_rfl⟩ TrOk.nil TrOk.nil
theorem fnN97_ok : TrOk FnQ fnN97 64 97 := TrOk.node ⟨Tryz.func97, by kernel_rfl, by kernel_rfl⟩ fnN161_ok TrOk.nil
theorem fnN33_ok : TrOk FnQ fnN33 32 33 := TrOk.node ⟨Tryz.func33, by kernel_rfl, by kernel_rfl⟩ fnN65_ok fnN97_ok
theorem fnN145_ok : TrOk FnQ fnN145 128 145 := TrOk.node ⟨Tryz.func145, by kernel_rfl, by kernel_rfl⟩ TrOk.nil TrOk.nil
theorem fnN81_ok : TrOk FnQ fnN81 64 81 := TrOk.node ⟨Tryz.func81, by kernel_rfl, by kernel_rfl⟩ fnN145_ok TrOk.nil
theorem fnN177_ok : TrOk FnQ fnN177 128 177 := TrOk.node ⟨Tryz.func177, by kernel_rfl, by kernel_rfl⟩ TrOk.nil TrOk.nil
theorem fnN113_ok : TrOk FnQ fnN113 64 113 := TrOk.node ⟨Tryz.func113, by kernel_rfl, by kernel_rfl⟩ fnN177_ok TrOk.nil
theorem fnN49_ok : TrOk FnQ fnN49 32 49 := TrOk.node ⟨Tryz.func49, by kernel_rfl, by kernel_rfl⟩ fnN81_ok fnN113_ok
theorem fnN17_ok : TrOk FnQ fnN17 16 17 := TrOk.node ⟨Tryz.func17, by kernel_rfl, by kernel_rfl⟩ fnN33_ok fnN49_ok
theorem fnN137_ok : TrOk FnQ fnN137 128 137 := TrOk.node ⟨Tryz.func137, by kernel_rfl, by kernel_rfl⟩ TrOk.nil TrOk.nil
theorem fnN73_ok : TrOk FnQ fnN73 64 73 := TrOk.node ⟨Tryz.func73, by kernel_rfl, by kernel_rfl⟩ fnN137_ok TrOk.nil
theorem fnN169_ok : TrOk FnQ fnN169 128 169 := TrOk.node ⟨Tryz.func169, by kernel_rfl, by kernel_rfl⟩ TrOk.nil TrOk.nil
theorem fnN105_ok : TrOk FnQ fnN105 64 105 := TrOk.node ⟨Tryz.func105, by kernel_rfl, by kernel_rfl⟩ fnN169_ok TrOk.nil
theorem fnN41_ok : TrOk FnQ fnN41 32 41 := TrOk.node ⟨Tryz.func41, by kernel_rfl, by kernel_rfl⟩ fnN73_ok fnN105_ok
theorem fnN153_ok : TrOk FnQ fnN153 128 153 := TrOk.node ⟨Tryz.func153, by kernel_rfl, by kernel_rfl⟩ TrOk.nil TrOk.nil
theorem fnN89_ok : TrOk FnQ fnN89 64 89 := TrOk.node ⟨Tryz.func89, by kernel_rfl, by kernel_rfl⟩ fnN153_ok TrOk.nil
theorem fnN185_ok : TrOk FnQ fnN185 128 185 := TrOk.node ⟨Tryz.func185, by kernel_rfl, by kernel_rfl⟩ TrOk.nil TrOk.nil
theorem fnN121_ok : TrOk FnQ fnN121 64 121 := TrOk.node ⟨Tryz.func121, by kernel_rfl, by kernel_rfl⟩ fnN185_ok TrOk.nil
theorem fnN57_ok : TrOk FnQ fnN57 32 57 := TrOk.node ⟨Tryz.func57, by kernel_rfl, by kernel_rfl⟩ fnN89_ok fnN121_ok
theorem fnN25_ok : TrOk FnQ fnN25 16 25 := TrOk.node ⟨Tryz.func25, by kernel_rfl, by kernel_rfl⟩ fnN41_ok fnN57_ok
theorem fnN9_ok : TrOk FnQ fnN9 8 9 := TrOk.node ⟨Tryz.func9, by kernel_rfl, by kernel_rfl⟩ fnN17_ok fnN25_ok
theorem fnN133_ok : TrOk FnQ fnN133 128 133 := TrOk.node ⟨Tryz.func133, by kernel_rfl, by kernel_rfl⟩ TrOk.nil TrOk.nil
theorem fnN197_ok : TrOk FnQ fnN197 128 197 := TrOk.node ⟨Tryz.func197, by kernel_rfl, by kernel_rfl⟩ TrOk.nil TrOk.nil
theorem fnN69_ok : TrOk FnQ fnN69 64 69 := TrOk.node ⟨Tryz.func69, by kernel_rfl, by kernel_rfl⟩ fnN133_ok fnN197_ok
theorem fnN165_ok : TrOk FnQ fnN165 128 165 := TrOk.node ⟨Tryz.func165, by kernel_rfl, by kernel_rfl⟩ TrOk.nil TrOk.nil
theorem fnN101_ok : TrOk FnQ fnN101 64 101 := TrOk.node ⟨Tryz.func101, by kernel_rfl, by kernel_rfl⟩ fnN165_ok TrOk.nil
theorem fnN37_ok : TrOk FnQ fnN37 32 37 := TrOk.node ⟨Tryz.func37, by kernel_rfl, by kernel_rfl⟩ fnN69_ok fnN101_ok
theorem fnN149_ok : TrOk FnQ fnN149 128 149 := TrOk.node ⟨Tryz.func149, by kernel_rfl, by kernel_rfl⟩ TrOk.nil TrOk.nil
theorem fnN85_ok : TrOk FnQ fnN85 64 85 := TrOk.node ⟨Tryz.func85, by kernel_rfl, by kernel_rfl⟩ fnN149_ok TrOk.nil
theorem fnN181_ok : TrOk FnQ fnN181 128 181 := TrOk.node ⟨Tryz.func181, by kernel_rfl, by kernel_rfl⟩ TrOk.nil TrOk.nil
theorem fnN117_ok : TrOk FnQ fnN117 64 117 := TrOk.node ⟨Tryz.func117, by kernel_rfl, by kernel_rfl⟩ fnN181_ok TrOk.nil
theorem fnN53_ok : TrOk FnQ fnN53 32 53 := TrOk.node ⟨Tryz.func53, by kernel_rfl, by kernel_rfl⟩ fnN85_ok fnN117_ok
theorem fnN21_ok : TrOk FnQ fnN21 16 21 := TrOk.node ⟨Tryz.func21, by kernel_rfl, by kernel_rfl⟩ fnN37_ok fnN53_ok
theorem fnN141_ok : TrOk FnQ fnN141 128 141 := TrOk.node ⟨Tryz.func141, by kernel_rfl, by kernel_rfl⟩ TrOk.nil TrOk.nil
theorem fnN77_ok : TrOk FnQ fnN77 64 77 := TrOk.node ⟨Tryz.func77, by kernel_rfl, by kernel_rfl⟩ fnN141_ok TrOk.nil
theorem fnN173_ok : TrOk FnQ fnN173 128 173 := TrOk.node ⟨Tryz.func173, by kernel_rfl, by kernel_rfl⟩ TrOk.nil TrOk.nil
theorem fnN109_ok : TrOk FnQ fnN109 64 109 := TrOk.node ⟨Tryz.func109, by kernel_rfl, by kernel_rfl⟩ fnN173_ok TrOk.nil
theorem fnN45_ok : TrOk FnQ fnN45 32 45 := TrOk.node ⟨Tryz.func45, by kernel_rfl, by kernel_rfl⟩ fnN77_ok fnN109_ok
theorem fnN157_ok : TrOk FnQ fnN157 128 157 := TrOk.node ⟨Tryz.func157, by kernel_rfl, by kernel_rfl⟩ TrOk.nil TrOk.nil
theorem fnN93_ok : TrOk FnQ fnN93 64 93 := TrOk.node ⟨Tryz.func93, by kernel_rfl, by kernel_rfl⟩ fnN157_ok TrOk.nil
theorem fnN189_ok : TrOk FnQ fnN189 128 189 := TrOk.node ⟨Tryz.func189, by kernel_rfl, by kernel_rfl⟩ TrOk.nil TrOk.nil
theorem fnN125_ok : TrOk FnQ fnN125 64 125 := TrOk.node ⟨Tryz.func125, by kernel_rfl, by kernel_rfl⟩ fnN189_ok TrOk.nil
theorem fnN61_ok : TrOk FnQ fnN61 32 61 := TrOk.node ⟨Tryz.func61, by kernel_rfl, by kernel_rfl⟩ fnN93_ok fnN125_ok
theorem fnN29_ok : TrOk FnQ fnN29 16 29 := TrOk.node ⟨Tryz.func29, by kernel_rfl, by kernel_rfl⟩ fnN45_ok fnN61_ok
theorem fnN13_ok : TrOk FnQ fnN13 8 13 := TrOk.node ⟨Tryz.func13, by kernel_rfl, by kernel_rfl⟩ fnN21_ok fnN29_ok
theorem fnN5_ok : TrOk FnQ fnN5 4 5 := TrOk.node ⟨Tryz.func5, by kernel_rfl, by kernel_rfl⟩ fnN9_ok fnN13_ok
theorem fnN1_ok : TrOk FnQ fnN1 2 1 := TrOk.node ⟨Tryz.func1, by kernel_rfl, by kernel_rfl⟩ fnN3_ok fnN5_ok
theorem fnN128_ok : TrOk FnQ fnN128 128 128 := TrOk.node ⟨Tryz.func128, by kernel_rfl, by kernel_rfl⟩ TrOk.nil TrOk.nil
theorem fnN192_ok : TrOk FnQ fnN192 128 192 := TrOk.node ⟨Tryz.func192, by kernel_rfl, by kernel_rfl⟩ TrOk.nil TrOk.nil
theorem fnN64_ok : TrOk FnQ fnN64 64 64 := TrOk.node ⟨Tryz.func64, by kernel_rfl, by kernel_rfl⟩ fnN128_ok fnN192_ok
theorem fnN160_ok : TrOk FnQ fnN160 128 160 := TrOk.node ⟨Tryz.func160, by kernel_rfl, by kernel_rfl⟩ TrOk.nil TrOk.nil
theorem fnN96_ok : TrOk FnQ fnN96 64 96 := TrOk.node ⟨Tryz.func96, by kernel_rfl, by kernel_rfl⟩ fnN160_ok TrOk.nil
theorem fnN32_ok : TrOk FnQ fnN32 32 32 := TrOk.node ⟨Tryz.func32, by kernel_rfl, by kernel_rfl⟩ fnN64_ok fnN96_ok
theorem fnN144_ok : TrOk FnQ fnN144 128 144 := TrOk.node ⟨Tryz.func144, by kernel_rfl, by kernel_rfl⟩ TrOk.nil TrOk.nil
theorem fnN80_ok : TrOk FnQ fnN80 64 80 := TrOk.node ⟨Tryz.func80, by kernel_rfl, by kernel_rfl⟩ fnN144_ok TrOk.nil
theorem fnN176_ok : TrOk FnQ fnN176 128 176 := TrOk.node ⟨Tryz.func176, by kernel_rfl, by kernel_rfl⟩ TrOk.nil TrOk.nil
theorem fnN112_ok : TrOk FnQ fnN112 64 112 := TrOk.node ⟨Tryz.func112, by kernel_rfl, by kernel_rfl⟩ fnN176_ok TrOk.nil
theorem fnN48_ok : TrOk FnQ fnN48 32 48 := TrOk.node ⟨Tryz.func48, by kernel_rfl, by kernel_rfl⟩ fnN80_ok fnN112_ok
theorem fnN16_ok : TrOk FnQ fnN16 16 16 := TrOk.node ⟨Tryz.func16, by kernel_rfl, by kernel_rfl⟩ fnN32_ok fnN48_ok
theorem fnN136_ok : TrOk FnQ fnN136 128 136 := TrOk.node ⟨Tryz.func136, by kernel_rfl, by kernel_rfl⟩ TrOk.nil TrOk.nil
theorem fnN72_ok : TrOk FnQ fnN72 64 72 := TrOk.node ⟨Tryz.func72, by kernel_rfl, by kernel_rfl⟩ fnN136_ok TrOk.nil
theorem fnN168_ok : TrOk FnQ fnN168 128 168 := TrOk.node ⟨Tryz.func168, by kernel_rfl, by kernel_rfl⟩ TrOk.nil TrOk.nil
theorem fnN104_ok : TrOk FnQ fnN104 64 104 := TrOk.node ⟨Tryz.func104, by kernel_rfl, by kernel_rfl⟩ fnN168_ok TrOk.nil
theorem fnN40_ok : TrOk FnQ fnN40 32 40 := TrOk.node ⟨Tryz.func40, by kernel_rfl, by kernel_rfl⟩ fnN72_ok fnN104_ok
theorem fnN152_ok : TrOk FnQ fnN152 128 152 := TrOk.node ⟨Tryz.func152, by kernel_rfl, by kernel_rfl⟩ TrOk.nil TrOk.nil
theorem fnN88_ok : TrOk FnQ fnN88 64 88 := TrOk.node ⟨Tryz.func88, by kernel_rfl, by kernel_rfl⟩ fnN152_ok TrOk.nil
theorem fnN184_ok : TrOk FnQ fnN184 128 184 := TrOk.node ⟨Tryz.func184, by kernel_rfl, by kernel_rfl⟩ TrOk.nil TrOk.nil
theorem fnN120_ok : TrOk FnQ fnN120 64 120 := TrOk.node ⟨Tryz.func120, by kernel_rfl, by kernel_rfl⟩ fnN184_ok TrOk.nil
theorem fnN56_ok : TrOk FnQ fnN56 32 56 := TrOk.node ⟨Tryz.func56, by kernel_rfl, by kernel_rfl⟩ fnN88_ok fnN120_ok
theorem fnN24_ok : TrOk FnQ fnN24 16 24 := TrOk.node ⟨Tryz.func24, by kernel_rfl, by kernel_rfl⟩ fnN40_ok fnN56_ok
theorem fnN8_ok : TrOk FnQ fnN8 8 8 := TrOk.node ⟨Tryz.func8, by kernel_rfl, by kernel_rfl⟩ fnN16_ok fnN24_ok
theorem fnN132_ok : TrOk FnQ fnN132 128 132 := TrOk.node ⟨Tryz.func132, by kernel_rfl, by kernel_rfl⟩ TrOk.nil TrOk.nil
theorem fnN196_ok : TrOk FnQ fnN196 128 196 := TrOk.node ⟨Tryz.func196, by kernel_rfl, by kernel_rfl⟩ TrOk.nil TrOk.nil
theorem fnN68_ok : TrOk FnQ fnN68 64 68 := TrOk.node ⟨Tryz.func68, by kernel_rfl, by kernel_rfl⟩ fnN132_ok fnN196_ok
theorem fnN164_ok : TrOk FnQ fnN164 128 164 := TrOk.node ⟨Tryz.func164, by kernel_rfl, by kernel_rfl⟩ TrOk.nil TrOk.nil
theorem fnN100_ok : TrOk FnQ fnN100 64 100 := TrOk.node ⟨Tryz.func100, by kernel_rfl, by kernel_rfl⟩ fnN164_ok TrOk.nil
theorem fnN36_ok : TrOk FnQ fnN36 32 36 := TrOk.node ⟨Tryz.func36, by kernel_rfl, by kernel_rfl⟩ fnN68_ok fnN100_ok
theorem fnN148_ok : TrOk FnQ fnN148 128 148 := TrOk.node ⟨Tryz.func148, by kernel_rfl, by kernel_rfl⟩ TrOk.nil TrOk.nil
theorem fnN84_ok : TrOk FnQ fnN84 64 84 := TrOk.node ⟨Tryz.func84, by kernel_rfl, by kernel_rfl⟩ fnN148_ok TrOk.nil
theorem fnN180_ok : TrOk FnQ fnN180 128 180 := TrOk.node ⟨Tryz.func180, by kernel_rfl, by kernel_rfl⟩ TrOk.nil TrOk.nil
theorem fnN116_ok : TrOk FnQ fnN116 64 116 := TrOk.node ⟨Tryz.func116, by kernel_rfl, by kernel_rfl⟩ fnN180_ok TrOk.nil
theorem fnN52_ok : TrOk FnQ fnN52 32 52 := TrOk.node ⟨Tryz.func52, by kernel_rfl, by kernel_rfl⟩ fnN84_ok fnN116_ok
theorem fnN20_ok : TrOk FnQ fnN20 16 20 := TrOk.node ⟨Tryz.func20, by kernel_rfl, by kernel_rfl⟩ fnN36_ok fnN52_ok
theorem fnN140_ok : TrOk FnQ fnN140 128 140 := TrOk.node ⟨Tryz.func140, by kernel_rfl, by kernel_rfl⟩ TrOk.nil TrOk.nil
theorem fnN76_ok : TrOk FnQ fnN76 64 76 := TrOk.node ⟨Tryz.func76, by kernel_rfl, by kernel_rfl⟩ fnN140_ok TrOk.nil
theorem fnN172_ok : TrOk FnQ fnN172 128 172 := TrOk.node ⟨Tryz.func172, by kernel_rfl, by kernel_rfl⟩ TrOk.nil TrOk.nil
theorem fnN108_ok : TrOk FnQ fnN108 64 108 := TrOk.node ⟨Tryz.func108, by kernel_rfl, by kernel_rfl⟩ fnN172_ok TrOk.nil
theorem fnN44_ok : TrOk FnQ fnN44 32 44 := TrOk.node ⟨Tryz.func44, by kernel_rfl, by kernel_rfl⟩ fnN76_ok fnN108_ok
theorem fnN156_ok : TrOk FnQ fnN156 128 156 := TrOk.node ⟨Tryz.func156, by kernel_rfl, by kernel_rfl⟩ TrOk.nil TrOk.nil
theorem fnN92_ok : TrOk FnQ fnN92 64 92 := TrOk.node ⟨Tryz.func92, by kernel_rfl, by kernel_rfl⟩ fnN156_ok TrOk.nil
theorem fnN188_ok : TrOk FnQ fnN188 128 188 := TrOk.node ⟨Tryz.func188, by kernel_rfl, by kernel_rfl⟩ TrOk.nil TrOk.nil
theorem fnN124_ok : TrOk FnQ fnN124 64 124 := TrOk.node ⟨Tryz.func124, by kernel_rfl, by kernel_rfl⟩ fnN188_ok TrOk.nil
theorem fnN60_ok : TrOk FnQ fnN60 32 60 := TrOk.node ⟨Tryz.func60, by kernel_rfl, by kernel_rfl⟩ fnN92_ok fnN124_ok
theorem fnN28_ok : TrOk FnQ fnN28 16 28 := TrOk.node ⟨Tryz.func28, by kernel_rfl, by kernel_rfl⟩ fnN44_ok fnN60_ok
theorem fnN12_ok : TrOk FnQ fnN12 8 12 := TrOk.node ⟨Tryz.func12, by kernel_rfl, by kernel_rfl⟩ fnN20_ok fnN28_ok
theorem fnN4_ok : TrOk FnQ fnN4 4 4 := TrOk.node ⟨Tryz.func4, by kernel_rfl, by kernel_rfl⟩ fnN8_ok fnN12_ok
theorem fnN130_ok : TrOk FnQ fnN130 128 130 := TrOk.node ⟨Tryz.func130, by kernel_rfl, by kernel_rfl⟩ TrOk.nil TrOk.nil
theorem fnN194_ok : TrOk FnQ fnN194 128 194 := TrOk.node ⟨Tryz.func194, by kernel_rfl, by kernel_rfl⟩ TrOk.nil TrOk.nil
theorem fnN66_ok : TrOk FnQ fnN66 64 66 := TrOk.node ⟨Tryz.func66, by kernel_rfl, by kernel_rfl⟩ fnN130_ok fnN194_ok
theorem fnN162_ok : TrOk FnQ fnN162 128 162 := TrOk.node ⟨Tryz.func162, by kernel_rfl, by kernel_rfl⟩ TrOk.nil TrOk.nil
theorem fnN98_ok : TrOk FnQ fnN98 64 98 := TrOk.node ⟨Tryz.func98, by kernel_rfl, by kernel_rfl⟩ fnN162_ok TrOk.nil
theorem fnN34_ok : TrOk FnQ fnN34 32 34 := TrOk.node ⟨Tryz.func34, by kernel_rfl, by kernel_rfl⟩ fnN66_ok fnN98_ok
theorem fnN146_ok : TrOk FnQ fnN146 128 146 := TrOk.node ⟨Tryz.func146, by kernel_rfl, by kernel_rfl⟩ TrOk.nil TrOk.nil
theorem fnN82_ok : TrOk FnQ fnN82 64 82 := TrOk.node ⟨Tryz.func82, by kernel_rfl, by kernel_rfl⟩ fnN146_ok TrOk.nil
theorem fnN178_ok : TrOk FnQ fnN178 128 178 := TrOk.node ⟨Tryz.func178, by kernel_rfl, by kernel_rfl⟩ TrOk.nil TrOk.nil
theorem fnN114_ok : TrOk FnQ fnN114 64 114 := TrOk.node ⟨Tryz.func114, by kernel_rfl, by kernel_rfl⟩ fnN178_ok TrOk.nil
theorem fnN50_ok : TrOk FnQ fnN50 32 50 := TrOk.node ⟨Tryz.func50, by kernel_rfl, by kernel_rfl⟩ fnN82_ok fnN114_ok
theorem fnN18_ok : TrOk FnQ fnN18 16 18 := TrOk.node ⟨Tryz.func18, by kernel_rfl, by kernel_rfl⟩ fnN34_ok fnN50_ok
theorem fnN138_ok : TrOk FnQ fnN138 128 138 := TrOk.node ⟨Tryz.func138, by kernel_rfl, by kernel_rfl⟩ TrOk.nil TrOk.nil
theorem fnN74_ok : TrOk FnQ fnN74 64 74 := TrOk.node ⟨Tryz.func74, by kernel_rfl, by kernel_rfl⟩ fnN138_ok TrOk.nil
theorem fnN170_ok : TrOk FnQ fnN170 128 170 := TrOk.node ⟨Tryz.func170, by kernel_rfl, by kernel_rfl⟩ TrOk.nil TrOk.nil
theorem fnN106_ok : TrOk FnQ fnN106 64 106 := TrOk.node ⟨Tryz.func106, by kernel_rfl, by kernel_rfl⟩ fnN170_ok TrOk.nil
theorem fnN42_ok : TrOk FnQ fnN42 32 42 := TrOk.node ⟨Tryz.func42, by kernel_rfl, by kernel_rfl⟩ fnN74_ok fnN106_ok
theorem fnN154_ok : TrOk FnQ fnN154 128 154 := TrOk.node ⟨Tryz.func154, by kernel_rfl, by kernel_rfl⟩ TrOk.nil TrOk.nil
theorem fnN90_ok : TrOk FnQ fnN90 64 90 := TrOk.node ⟨Tryz.func90, by kernel_rfl, by kernel_rfl⟩ fnN154_ok TrOk.nil
theorem fnN186_ok : TrOk FnQ fnN186 128 186 := TrOk.node ⟨Tryz.func186, by kernel_rfl, by kernel_rfl⟩ TrOk.nil TrOk.nil
theorem fnN122_ok : TrOk FnQ fnN122 64 122 := TrOk.node ⟨Tryz.func122, by kernel_rfl, by kernel_rfl⟩ fnN186_ok TrOk.nil
theorem fnN58_ok : TrOk FnQ fnN58 32 58 := TrOk.node ⟨Tryz.func58, by kernel_rfl, by kernel_rfl⟩ fnN90_ok fnN122_ok
theorem fnN26_ok : TrOk FnQ fnN26 16 26 := TrOk.node ⟨Tryz.func26, by kernel_rfl, by kernel_rfl⟩ fnN42_ok fnN58_ok
theorem fnN10_ok : TrOk FnQ fnN10 8 10 := TrOk.node ⟨Tryz.func10, by kernel_rfl, by kernel_rfl⟩ fnN18_ok fnN26_ok
theorem fnN134_ok : TrOk FnQ fnN134 128 134 := TrOk.node ⟨Tryz.func134, by kernel_rfl, by kernel_rfl⟩ TrOk.nil TrOk.nil
theorem fnN70_ok : TrOk FnQ fnN70 64 70 := TrOk.node ⟨Tryz.func70, by kernel_rfl, by kernel_rfl⟩ fnN134_ok TrOk.nil
theorem fnN166_ok : TrOk FnQ fnN166 128 166 := TrOk.node ⟨Tryz.func166, by kernel_rfl, by kernel_rfl⟩ TrOk.nil TrOk.nil
theorem fnN102_ok : TrOk FnQ fnN102 64 102 := TrOk.node ⟨Tryz.func102, by kernel_rfl, by kernel_rfl⟩ fnN166_ok TrOk.nil
theorem fnN38_ok : TrOk FnQ fnN38 32 38 := TrOk.node ⟨Tryz.func38, by kernel_rfl, by kernel_rfl⟩ fnN70_ok fnN102_ok
theorem fnN150_ok : TrOk FnQ fnN150 128 150 := TrOk.node ⟨Tryz.func150, by kernel_rfl, by kernel_rfl⟩ TrOk.nil TrOk.nil
theorem fnN86_ok : TrOk FnQ fnN86 64 86 := TrOk.node ⟨Tryz.func86, by kernel_rfl, by kernel_rfl⟩ fnN150_ok TrOk.nil
theorem fnN182_ok : TrOk FnQ fnN182 128 182 := TrOk.node ⟨Tryz.func182, by kernel_rfl, by kernel_rfl⟩ TrOk.nil TrOk.nil
theorem fnN118_ok : TrOk FnQ fnN118 64 118 := TrOk.node ⟨Tryz.func118, by kernel_rfl, by kernel_rfl⟩ fnN182_ok TrOk.nil
theorem fnN54_ok : TrOk FnQ fnN54 32 54 := TrOk.node ⟨Tryz.func54, by kernel_rfl, by kernel_rfl⟩ fnN86_ok fnN118_ok
theorem fnN22_ok : TrOk FnQ fnN22 16 22 := TrOk.node ⟨Tryz.func22, by kernel_rfl, by kernel_rfl⟩ fnN38_ok fnN54_ok
theorem fnN142_ok : TrOk FnQ fnN142 128 142 := TrOk.node ⟨Tryz.func142, by kernel_rfl, by kernel_rfl⟩ TrOk.nil TrOk.nil
theorem fnN78_ok : TrOk FnQ fnN78 64 78 := TrOk.node ⟨Tryz.func78, by kernel_rfl, by kernel_rfl⟩ fnN142_ok TrOk.nil
theorem fnN174_ok : TrOk FnQ fnN174 128 174 := TrOk.node ⟨Tryz.func174, by kernel_rfl, by kernel_rfl⟩ TrOk.nil TrOk.nil
theorem fnN110_ok : TrOk FnQ fnN110 64 110 := TrOk.node ⟨Tryz.func110, by kernel_rfl, by kernel_rfl⟩ fnN174_ok TrOk.nil
theorem fnN46_ok : TrOk FnQ fnN46 32 46 := TrOk.node ⟨Tryz.func46, by kernel_rfl, by kernel_rfl⟩ fnN78_ok fnN110_ok
theorem fnN158_ok : TrOk FnQ fnN158 128 158 := TrOk.node ⟨Tryz.func158, by kernel_rfl, by kernel_rfl⟩ TrOk.nil TrOk.nil
theorem fnN94_ok : TrOk FnQ fnN94 64 94 := TrOk.node ⟨Tryz.func94, by kernel_rfl, by kernel_rfl⟩ fnN158_ok TrOk.nil
theorem fnN190_ok : TrOk FnQ fnN190 128 190 := TrOk.node ⟨Tryz.func190, by kernel_rfl, by kernel_rfl⟩ TrOk.nil TrOk.nil
theorem fnN126_ok : TrOk FnQ fnN126 64 126 := TrOk.node ⟨Tryz.func126, by kernel_rfl, by kernel_rfl⟩ fnN190_ok TrOk.nil
theorem fnN62_ok : TrOk FnQ fnN62 32 62 := TrOk.node ⟨Tryz.func62, by kernel_rfl, by kernel_rfl⟩ fnN94_ok fnN126_ok
theorem fnN30_ok : TrOk FnQ fnN30 16 30 := TrOk.node ⟨Tryz.func30, by kernel_rfl, by kernel_rfl⟩ fnN46_ok fnN62_ok
theorem fnN14_ok : TrOk FnQ fnN14 8 14 := TrOk.node ⟨Tryz.func14, by kernel_rfl, by kernel_rfl⟩ fnN22_ok fnN30_ok
theorem fnN6_ok : TrOk FnQ fnN6 4 6 := TrOk.node ⟨Tryz.func6, by kernel_rfl, by kernel_rfl⟩ fnN10_ok fnN14_ok
theorem fnN2_ok : TrOk FnQ fnN2 2 2 := TrOk.node ⟨Tryz.func2, by kernel_rfl, by kernel_rfl⟩ fnN4_ok fnN6_ok
theorem fnN0_ok : TrOk FnQ fnN0 1 0 := TrOk.node ⟨Tryz.func0, by kernel_rfl, by kernel_rfl⟩ fnN1_ok fnN2_ok
theorem ty_at {t : Nat} {i : TypeInfo} (h : tyN0.get? t = some i) : TyQ t i := by
  have := tyN0_ok t i h
  rwa [Nat.one_mul, Nat.add_zero] at this
theorem fn_at {t : Nat} {i : Func} (h : fnN0.get? t = some i) : FnQ t i := by
  have := fnN0_ok t i h
  rwa [Nat.one_mul, Nat.add_zero] at this
theorem env_ok (hint : Nat → List Nat) : EnvOk Tryz.prog (env hint) := ⟨fun _ _ h => (ty_at h).1, fun _ _ _ h hz => zeroB_ok (ty_at h).2 _ hz, fun _ _ h => (fn_at h).1, fun _ _ h => (fn_at h).2.1, fun t s f h v w => by
    have h : methT t s = some f := h
    unfold methT at h
    rw [bif_eq] at h
    split at h
    · rename_i e
      rw [Bool.and_eq_true, decide_eq_true_eq] at e
      obtain rfl := Nat.eq_of_beq_eq_true e.1
      obtain rfl := e.2
      cases h
      show _ = _
      kernel_rfl
    rw [bif_eq] at h
    split at h
    · rename_i e
      rw [Bool.and_eq_true, decide_eq_true_eq] at e
      obtain rfl := Nat.eq_of_beq_eq_true e.1
      obtain rfl := e.2
      cases h
      show _ = _
      kernel_rfl
    rw [bif_eq] at h
    split at h
    · rename_i e
      rw [Bool.and_eq_true, decide_eq_true_eq] at e
      obtain rfl := Nat.eq_of_beq_eq_true e.1
      obtain rfl := e.2
      cases h
      show _ = _
      kernel_rfl
    cases h⟩
theorem env_fn (hint : Nat → List Nat) : ∀ f fn, (env hint).fn f = some fn → FnOk fn := fun _ _ h => fnB_ok (fn_at h).2.2
theorem cmp_ok (hint : Nat → List Nat) : CmpOk Tryz.prog (env hint) := by
  constructor
  · intro t h
    have h : cmpT t = true := h
    unfold cmpT at h
    split at h
    · show _ = _
      kernel_rfl
    · show _ = _
      kernel_rfl
    · show _ = _
      kernel_rfl
    · cases h
  · intro t h
    have h : cmpT t = true := h
    unfold cmpT at h
    split at h
    · show _ = _
      kernel_rfl
    · show _ = _
      kernel_rfl
    · show _ = _
      kernel_rfl
    · cases h
theorem prims_ok (hint : Nat → List Nat) : PrimsOk Tryz.prog (env hint) where
  grow := fun f p h args m v m' hp hm => by
    have h : prT.get? f = some (.fn p) := h
    rcases set_case h (by decide) with ⟨rfl, e⟩ | h
    · cases e
      exact pWrites_grow hp hm
    rcases set_case h (by decide) with ⟨rfl, e⟩ | h
    · cases e
      exact pLeft_grow hp hm
    rcases set_case h (by decide) with ⟨rfl, e⟩ | h
    · cases e
    rcases set_case h (by decide) with ⟨rfl, e⟩ | h
    · cases e
    rcases set_case h (by decide) with ⟨rfl, e⟩ | h
    · cases e
    rcases set_case h (by decide) with ⟨rfl, e⟩ | h
    · cases e
    rcases set_case h (by decide) with ⟨rfl, e⟩ | h
    · cases e
      exact pBAlloc_grow hp hm
    rcases set_case h (by decide) with ⟨rfl, e⟩ | h
    · cases e
      exact pBLoad_grow hp hm
    rcases set_case h (by decide) with ⟨rfl, e⟩ | h
    · cases e
    rcases set_case h (by decide) with ⟨rfl, e⟩ | h
    · cases e
      exact pOn_grow hp hm
    rcases set_case h (by decide) with ⟨rfl, e⟩ | h
    · cases e
      exact pIs_grow hp hm
    rcases set_case h (by decide) with ⟨rfl, e⟩ | h
    · cases e
      exact pNo_grow hp hm
    cases h
  fn := fun f p h => by
    have h : prT.get? f = some (.fn p) := h
    rcases set_case h (by decide) with ⟨rfl, e⟩ | h
    · cases e
      exact ⟨Tryz.call85, fun args m v m' hp G ρ w args' hc hr => pWrites_ok (E := env hint) (by kernel_rfl) hp hc hr⟩
    rcases set_case h (by decide) with ⟨rfl, e⟩ | h
    · cases e
      exact ⟨Tryz.call49, fun args m v m' hp G ρ w args' hc hr => pLeft_ok hp hc hr⟩
    rcases set_case h (by decide) with ⟨rfl, e⟩ | h
    · cases e
    rcases set_case h (by decide) with ⟨rfl, e⟩ | h
    · cases e
    rcases set_case h (by decide) with ⟨rfl, e⟩ | h
    · cases e
    rcases set_case h (by decide) with ⟨rfl, e⟩ | h
    · cases e
    rcases set_case h (by decide) with ⟨rfl, e⟩ | h
    · cases e
      exact ⟨Tryz.call101, fun args m v m' hp G ρ w args' hc hr => pBAlloc_ok hp hc hr⟩
    rcases set_case h (by decide) with ⟨rfl, e⟩ | h
    · cases e
      exact ⟨Tryz.call16, fun args m v m' hp G ρ w args' hc hr => pBLoad_ok hp hc hr⟩
    rcases set_case h (by decide) with ⟨rfl, e⟩ | h
    · cases e
    rcases set_case h (by decide) with ⟨rfl, e⟩ | h
    · cases e
      exact ⟨Tryz.call32, fun args m v m' hp G ρ w args' hc hr => pOn_ok hp hc hr⟩
    rcases set_case h (by decide) with ⟨rfl, e⟩ | h
    · cases e
      exact ⟨Tryz.call46, fun args m v m' hp G ρ w args' hc hr => pIs_ok hp hc hr⟩
    rcases set_case h (by decide) with ⟨rfl, e⟩ | h
    · cases e
      exact ⟨Tryz.call12, fun args m v m' hp G ρ w args' hc hr => pNo_ok hp hc hr⟩
    cases h
  acc := fun f p h => by
    have h : prT.get? f = some (.acc p) := h
    rcases set_case h (by decide) with ⟨rfl, e⟩ | h
    · cases e
    rcases set_case h (by decide) with ⟨rfl, e⟩ | h
    · cases e
    rcases set_case h (by decide) with ⟨rfl, e⟩ | h
    · cases e
      exact ⟨Tryz.call73, fun args m op res outs hi hp ha G hf ρ w args' hc hr => acc_alloc hc.hand hi hp ha hf hc hr⟩
    rcases set_case h (by decide) with ⟨rfl, e⟩ | h
    · cases e
      exact ⟨Tryz.call78, fun args m op res outs hi hp ha G hf ρ w args' hc hr => acc_cas hc.hand hi hp ha hf hc hr⟩
    rcases set_case h (by decide) with ⟨rfl, e⟩ | h
    · cases e
      exact ⟨Tryz.call75, fun args m op res outs hi hp ha G hf ρ w args' hc hr => acc_store hc.hand hi hp ha hf hc hr⟩
    rcases set_case h (by decide) with ⟨rfl, e⟩ | h
    · cases e
      exact ⟨Tryz.call79, fun args m op res outs hi hp ha G hf ρ w args' hc hr => acc_load hc.hand hi hp ha hf hc hr⟩
    rcases set_case h (by decide) with ⟨rfl, e⟩ | h
    · cases e
    rcases set_case h (by decide) with ⟨rfl, e⟩ | h
    · cases e
    rcases set_case h (by decide) with ⟨rfl, e⟩ | h
    · cases e
    rcases set_case h (by decide) with ⟨rfl, e⟩ | h
    · cases e
    rcases set_case h (by decide) with ⟨rfl, e⟩ | h
    · cases e
    rcases set_case h (by decide) with ⟨rfl, e⟩ | h
    · cases e
    cases h
  run := fun f h => by
    have h : prT.get? f = some .run := h
    rcases set_case h (by decide) with ⟨rfl, e⟩ | h
    · cases e
    rcases set_case h (by decide) with ⟨rfl, e⟩ | h
    · cases e
    rcases set_case h (by decide) with ⟨rfl, e⟩ | h
    · cases e
    rcases set_case h (by decide) with ⟨rfl, e⟩ | h
    · cases e
    rcases set_case h (by decide) with ⟨rfl, e⟩ | h
    · cases e
    rcases set_case h (by decide) with ⟨rfl, e⟩ | h
    · cases e
    rcases set_case h (by decide) with ⟨rfl, e⟩ | h
    · cases e
    rcases set_case h (by decide) with ⟨rfl, e⟩ | h
    · cases e
    rcases set_case h (by decide) with ⟨rfl, e⟩ | h
    · cases e
      exact ⟨Tryz.call15, fun rec' hr hg args m outs h G ρ w args' hc hra => run_ok (env_ok hint) (env_fn hint) rfl (fun _ _ => rfl) hr hg h hc hra⟩
    rcases set_case h (by decide) with ⟨rfl, e⟩ | h
    · cases e
    rcases set_case h (by decide) with ⟨rfl, e⟩ | h
    · cases e
    rcases set_case h (by decide) with ⟨rfl, e⟩ | h
    · cases e
    cases h
theorem law_run {F : FuncId} {hint : Nat → List Nat} {args : List Value} (h : trueB (callX (env hint) 1000 F args m0) = true) {args' : List Value} (hr : RelL (fun _ => none) args args') (w : World) (hg : Handle w) :
    Calls Tryz.prog F ⟨args'⟩ w fun e w' => e = .returned (.bool true) ∧ Below w.heap.size w w' :=
  start_run (env_ok hint) (cmp_ok hint) (by kernel_rfl) (env_fn hint) (prims_ok hint) h hr w hg
theorem val_run {F : FuncId} {hint : Nat → List Nat} {args : List Value} {V : Value} (h : valB V (callX (env hint) 1000 F args m0) = true) (hV : flat 20 V = true) {args' : List Value} (hr : RelL (fun _ => none) args args') (w : World) (hg : Handle w) :
    Calls Tryz.prog F ⟨args'⟩ w fun e w' => e = .returned V ∧ Below w.heap.size w w' :=
  start_val (env_ok hint) (cmp_ok hint) (by kernel_rfl) (env_fn hint) (prims_ok hint) h hV hr w hg
theorem alive_run {F : FuncId} {hint : Nat → List Nat} (h : trueB (callX (env hint) 1000 F [] m0) = true) (w : World) (hg : Handle w) :
    Calls Tryz.prog F #[] w fun e w' => e = .returned (.bool true) ∧ Below w.heap.size w w' := law_run h (RelL.nil _) w hg
end Go.Proofs.YtgpgblaoifpbnaaGreatDoor

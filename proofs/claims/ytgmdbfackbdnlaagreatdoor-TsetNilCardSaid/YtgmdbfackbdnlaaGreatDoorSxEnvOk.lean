/- The executor's tables are right. -/
import Derived.Test.YtgmdbfackbdnlaaGreatDoorSxEnv
import Derived.Test.YtgmdbfackbdnlaaGreatDoorSxExec
import Derived.Test.YtgmdbfackbdnlaaGreatDoorSxRun2
import Derived.Test.YtgmdbfackbdnlaaGreatDoorSxAlive
import Derived.Test.YtgmdbfackbdnlaaGreatDoorSxWrites2
import Derived.Test.YtgmdbfackbdnlaaGreatDoorSxLive
import Derived.Test.YtgmdbfackbdnlaaGreatDoorSxTall
import Derived.Test.YtgmdbfackbdnlaaGreatDoorSxStripe
namespace Go.Proofs.YtgmdbfackbdnlaaGreatDoor
open Go.RowKit Bl Th Go.Sx
set_option maxRecDepth 100000
def TyQ (n : Nat) (i : TypeInfo) : Prop := Tryz.prog.info? n = some i ∧ zeroB i = true
def FnQ (n : Nat) (fn : Func) : Prop := Tryz.prog.funcs[n]? = some fn ∧ (fn.name == "runtime.NumGoroutine") = false ∧ fnB fn = true
theorem tyN255_ok : TrOk TyQ tyN255 256 255 := TrOk.node ⟨Tryz.type255, by kernel_rfl⟩ TrOk.nil TrOk.nil
theorem tyN383_ok : TrOk TyQ tyN383 256 383 := TrOk.node ⟨Tryz.type383, by kernel_rfl⟩ TrOk.nil TrOk.nil
theorem tyN127_ok : TrOk TyQ tyN127 128 127 := TrOk.node ⟨Tryz.type127, by kernel_rfl⟩ tyN255_ok tyN383_ok
theorem tyN319_ok : TrOk TyQ tyN319 256 319 := TrOk.node ⟨Tryz.type319, by kernel_rfl⟩ TrOk.nil TrOk.nil
theorem tyN447_ok : TrOk TyQ tyN447 256 447 := TrOk.node ⟨Tryz.type447, by kernel_rfl⟩ TrOk.nil TrOk.nil
theorem tyN191_ok : TrOk TyQ tyN191 128 191 := TrOk.node ⟨Tryz.type191, by kernel_rfl⟩ tyN319_ok tyN447_ok
theorem tyN63_ok : TrOk TyQ tyN63 64 63 := TrOk.node ⟨Tryz.type63, by kernel_rfl⟩ tyN127_ok tyN191_ok
theorem tyN287_ok : TrOk TyQ tyN287 256 287 := TrOk.node ⟨Tryz.type287, by kernel_rfl⟩ TrOk.nil TrOk.nil
theorem tyN415_ok : TrOk TyQ tyN415 256 415 := TrOk.node ⟨Tryz.type415, by kernel_rfl⟩ TrOk.nil TrOk.nil
theorem tyN159_ok : TrOk TyQ tyN159 128 159 := TrOk.node ⟨Tryz.type159, by kernel_rfl⟩ tyN287_ok tyN415_ok
theorem tyN351_ok : TrOk TyQ tyN351 256 351 := TrOk.node ⟨Tryz.type351, by kernel_rfl⟩ TrOk.nil TrOk.nil
theorem tyN223_ok : TrOk TyQ tyN223 128 223 := TrOk.node ⟨Tryz.type223, by kernel_rfl⟩ tyN351_ok TrOk.nil
theorem tyN95_ok : TrOk TyQ tyN95 64 95 := TrOk.node ⟨Tryz.type95, by kernel_rfl⟩ tyN159_ok tyN223_ok
theorem tyN31_ok : TrOk TyQ tyN31 32 31 := TrOk.node ⟨Tryz.type31, by kernel_rfl⟩ tyN63_ok tyN95_ok
theorem tyN271_ok : TrOk TyQ tyN271 256 271 := TrOk.node ⟨Tryz.type271, by kernel_rfl⟩ TrOk.nil TrOk.nil
theorem tyN399_ok : TrOk TyQ tyN399 256 399 := TrOk.node ⟨Tryz.type399, by kernel_rfl⟩ TrOk.nil TrOk.nil
theorem tyN143_ok : TrOk TyQ tyN143 128 143 := TrOk.node ⟨Tryz.type143, by kernel_rfl⟩ tyN271_ok tyN399_ok
theorem tyN335_ok : TrOk TyQ tyN335 256 335 := TrOk.node ⟨Tryz.type335, by kernel_rfl⟩ TrOk.nil TrOk.nil
theorem tyN463_ok : TrOk TyQ tyN463 256 463 := TrOk.node ⟨Tryz.type463, by kernel_rfl⟩ TrOk.nil TrOk.nil
theorem tyN207_ok : TrOk TyQ tyN207 128 207 := TrOk.node ⟨Tryz.type207, by kernel_rfl⟩ tyN335_ok tyN463_ok
theorem tyN79_ok : TrOk TyQ tyN79 64 79 := TrOk.node ⟨Tryz.type79, by kernel_rfl⟩ tyN143_ok tyN207_ok
theorem tyN303_ok : TrOk TyQ tyN303 256 303 := TrOk.node ⟨Tryz.type303, by kernel_rfl⟩ TrOk.nil TrOk.nil
theorem tyN431_ok : TrOk TyQ tyN431 256 431 := TrOk.node ⟨Tryz.type431, by kernel_rfl⟩ TrOk.nil TrOk.nil
theorem tyN175_ok : TrOk TyQ tyN175 128 175 := TrOk.node ⟨Tryz.type175, by kernel_rfl⟩ tyN303_ok tyN431_ok
theorem tyN367_ok : TrOk TyQ tyN367 256 367 := TrOk.node ⟨Tryz.type367, by kernel_rfl⟩ TrOk.nil TrOk.nil
theorem tyN239_ok : TrOk TyQ tyN239 128 239 := TrOk.node ⟨Tryz.type239, by kernel_rfl⟩ tyN367_ok TrOk.nil
theorem tyN111_ok : TrOk TyQ tyN111 64 111 := TrOk.node ⟨Tryz.type111, by kernel_rfl⟩ tyN175_ok tyN239_ok
theorem tyN47_ok : TrOk TyQ tyN47 32 47 := TrOk.node ⟨Tryz.type47, by kernel_rfl⟩ tyN79_ok tyN111_ok
theorem tyN15_ok : TrOk TyQ tyN15 16 15 := TrOk.node ⟨Tryz.type15, by kernel_rfl⟩ tyN31_ok tyN47_ok
theorem tyN263_ok : TrOk TyQ tyN263 256 263 := TrOk.node ⟨Tryz.type263, by kernel_rfl⟩ TrOk.nil TrOk.nil
theorem tyN391_ok : TrOk TyQ tyN391 256 391 := TrOk.node ⟨Tryz.type391, by kernel_rfl⟩ TrOk.nil TrOk.nil
theorem tyN135_ok : TrOk TyQ tyN135 128 135 := TrOk.node ⟨Tryz.type135, by kernel_rfl⟩ tyN263_ok tyN391_ok
theorem tyN327_ok : TrOk TyQ tyN327 256 327 := TrOk.node ⟨Tryz.type327, by kernel_rfl⟩ TrOk.nil TrOk.nil
theorem tyN455_ok : TrOk TyQ tyN455 256 455 := TrOk.node ⟨Tryz.type455, by kernel_rfl⟩ TrOk.nil TrOk.nil
theorem tyN199_ok : TrOk TyQ tyN199 128 199 := TrOk.node ⟨Tryz.type199, by kernel_rfl⟩ tyN327_ok tyN455_ok
theorem tyN71_ok : TrOk TyQ tyN71 64 71 := TrOk.node ⟨Tryz.type71, by kernel_rfl⟩ tyN135_ok tyN199_ok
theorem tyN295_ok : TrOk TyQ tyN295 256 295 := TrOk.node ⟨Tryz.type295, by kernel_rfl⟩ TrOk.nil TrOk.nil
theorem tyN423_ok : TrOk TyQ tyN423 256 423 := TrOk.node ⟨Tryz.type423, by kernel_rfl⟩ TrOk.nil TrOk.nil
theorem tyN167_ok : TrOk TyQ tyN167 128 167 := TrOk.node ⟨Tryz.type167, by kernel_rfl⟩ tyN295_ok tyN423_ok
theorem tyN359_ok : TrOk TyQ tyN359 256 359 := TrOk.node ⟨Tryz.type359, by kernel_rfl⟩ TrOk.nil TrOk.nil
theorem tyN231_ok : TrOk TyQ tyN231 128 231 := TrOk.node ⟨Tryz.type231, by kernel_rfl⟩ tyN359_ok TrOk.nil
theorem tyN103_ok : TrOk TyQ tyN103 64 103 := TrOk.node ⟨Tryz.type103, by kernel_rfl⟩ tyN167_ok tyN231_ok
theorem tyN39_ok : TrOk TyQ tyN39 32 39 := TrOk.node ⟨Tryz.type39, by kernel_rfl⟩ tyN71_ok tyN103_ok
theorem tyN279_ok : TrOk TyQ tyN279 256 279 := TrOk.node ⟨Tryz.type279, by kernel_rfl⟩ TrOk.nil TrOk.nil
theorem tyN407_ok : TrOk TyQ tyN407 256 407 := TrOk.node ⟨Tryz.type407, by kernel_rfl⟩ TrOk.nil TrOk.nil
theorem tyN151_ok : TrOk TyQ tyN151 128 151 := TrOk.node ⟨Tryz.type151, by kernel_rfl⟩ tyN279_ok tyN407_ok
theorem tyN343_ok : TrOk TyQ tyN343 256 343 := TrOk.node ⟨Tryz.type343, by kernel_rfl⟩ TrOk.nil TrOk.nil
theorem tyN471_ok : TrOk TyQ tyN471 256 471 := TrOk.node ⟨Tryz.type471, by kernel_rfl⟩ TrOk.nil TrOk.nil
theorem tyN215_ok : TrOk TyQ tyN215 128 215 := TrOk.node ⟨Tryz.type215, by kernel_rfl⟩ tyN343_ok tyN471_ok
theorem tyN87_ok : TrOk TyQ tyN87 64 87 := TrOk.node ⟨Tryz.type87, by kernel_rfl⟩ tyN151_ok tyN215_ok
theorem tyN311_ok : TrOk TyQ tyN311 256 311 := TrOk.node ⟨Tryz.type311, by kernel_rfl⟩ TrOk.nil TrOk.nil
theorem tyN439_ok : TrOk TyQ tyN439 256 439 := TrOk.node ⟨Tryz.type439, by kernel_rfl⟩ TrOk.nil TrOk.nil
theorem tyN183_ok : TrOk TyQ tyN183 128 183 := TrOk.node ⟨Tryz.type183, by kernel_rfl⟩ tyN311_ok tyN439_ok
theorem tyN375_ok : TrOk TyQ tyN375 256 375 := TrOk.node ⟨Tryz.type375, by kernel_rfl⟩ TrOk.nil TrOk.nil
theorem tyN247_ok : TrOk TyQ tyN247 128 247 := TrOk.node ⟨Tryz.type247, by kernel_rfl⟩ tyN375_ok TrOk.nil
theorem tyN119_ok : TrOk TyQ tyN119 64 119 := TrOk.node ⟨Tryz.type119, by kernel_rfl⟩ tyN183_ok tyN247_ok
theorem tyN55_ok : TrOk TyQ tyN55 32 55 := TrOk.node ⟨Tryz.type55, by kernel_rfl⟩ tyN87_ok tyN119_ok
theorem tyN23_ok : TrOk TyQ tyN23 16 23 := TrOk.node ⟨Tryz.type23, by kernel_rfl⟩ tyN39_ok tyN55_ok
theorem tyN7_ok : TrOk TyQ tyN7 8 7 := TrOk.node ⟨Tryz.type7, by kernel_rfl⟩ tyN15_ok tyN23_ok
theorem tyN259_ok : TrOk TyQ tyN259 256 259 := TrOk.node ⟨Tryz.type259, by kernel_rfl⟩ TrOk.nil TrOk.nil
theorem tyN387_ok : TrOk TyQ tyN387 256 387 := TrOk.node ⟨Tryz.type387, by kernel_rfl⟩ TrOk.nil TrOk.nil
theorem tyN131_ok : TrOk TyQ tyN131 128 131 := TrOk.node ⟨Tryz.type131, by kernel_rfl⟩ tyN259_ok tyN387_ok
theorem tyN323_ok : TrOk TyQ tyN323 256 323 := TrOk.node ⟨Tryz.type323, by kernel_rfl⟩ TrOk.nil TrOk.nil
theorem tyN451_ok : TrOk TyQ tyN451 256 451 := TrOk.node ⟨Tryz.type451, by kernel_rfl⟩ TrOk.nil TrOk.nil
theorem tyN195_ok : TrOk TyQ tyN195 128 195 := TrOk.node ⟨Tryz.type195, by kernel_rfl⟩ tyN323_ok tyN451_ok
theorem tyN67_ok : TrOk TyQ tyN67 64 67 := TrOk.node ⟨Tryz.type67, by kernel_rfl⟩ tyN131_ok tyN195_ok
theorem tyN291_ok : TrOk TyQ tyN291 256 291 := TrOk.node ⟨Tryz.type291, by kernel_rfl⟩ TrOk.nil TrOk.nil
theorem tyN419_ok : TrOk TyQ tyN419 256 419 := TrOk.node ⟨Tryz.type419, by kernel_rfl⟩ TrOk.nil TrOk.nil
theorem tyN163_ok : TrOk TyQ tyN163 128 163 := TrOk.node ⟨Tryz.type163, by kernel_rfl⟩ tyN291_ok tyN419_ok
theorem tyN355_ok : TrOk TyQ tyN355 256 355 := TrOk.node ⟨Tryz.type355, by kernel_rfl⟩ TrOk.nil TrOk.nil
theorem tyN227_ok : TrOk TyQ tyN227 128 227 := TrOk.node ⟨Tryz.type227, by kernel_rfl⟩ tyN355_ok TrOk.nil
theorem tyN99_ok : TrOk TyQ tyN99 64 99 := TrOk.node ⟨Tryz.type99, by kernel_rfl⟩ tyN163_ok tyN227_ok
theorem tyN35_ok : TrOk TyQ tyN35 32 35 := TrOk.node ⟨Tryz.type35, by kernel_rfl⟩ tyN67_ok tyN99_ok
theorem tyN275_ok : TrOk TyQ tyN275 256 275 := TrOk.node ⟨Tryz.type275, by kernel_rfl⟩ TrOk.nil TrOk.nil
theorem tyN403_ok : TrOk TyQ tyN403 256 403 := TrOk.node ⟨Tryz.type403, by kernel_rfl⟩ TrOk.nil TrOk.nil
theorem tyN147_ok : TrOk TyQ tyN147 128 147 := TrOk.node ⟨Tryz.type147, by kernel_rfl⟩ tyN275_ok tyN403_ok
theorem tyN339_ok : TrOk TyQ tyN339 256 339 := TrOk.node ⟨Tryz.type339, by kernel_rfl⟩ TrOk.nil TrOk.nil
theorem tyN467_ok : TrOk TyQ tyN467 256 467 := TrOk.node ⟨Tryz.type467, by kernel_rfl⟩ TrOk.nil TrOk.nil
theorem tyN211_ok : TrOk TyQ tyN211 128 211 := TrOk.node ⟨Tryz.type211, by kernel_rfl⟩ tyN339_ok tyN467_ok
theorem tyN83_ok : TrOk TyQ tyN83 64 83 := TrOk.node ⟨Tryz.type83, by kernel_rfl⟩ tyN147_ok tyN211_ok
theorem tyN307_ok : TrOk TyQ tyN307 256 307 := TrOk.node ⟨Tryz.type307, by kernel_rfl⟩ TrOk.nil TrOk.nil
theorem tyN435_ok : TrOk TyQ tyN435 256 435 := TrOk.node ⟨Tryz.type435, by kernel_rfl⟩ TrOk.nil TrOk.nil
theorem tyN179_ok : TrOk TyQ tyN179 128 179 := TrOk.node ⟨Tryz.type179, by kernel_rfl⟩ tyN307_ok tyN435_ok
theorem tyN371_ok : TrOk TyQ tyN371 256 371 := TrOk.node ⟨Tryz.type371, by kernel_rfl⟩ TrOk.nil TrOk.nil
theorem tyN243_ok : TrOk TyQ tyN243 128 243 := TrOk.node ⟨Tryz.type243, by kernel_rfl⟩ tyN371_ok TrOk.nil
theorem tyN115_ok : TrOk TyQ tyN115 64 115 := TrOk.node ⟨Tryz.type115, by kernel_rfl⟩ tyN179_ok tyN243_ok
theorem tyN51_ok : TrOk TyQ tyN51 32 51 := TrOk.node ⟨Tryz.type51, by kernel_rfl⟩ tyN83_ok tyN115_ok
theorem tyN19_ok : TrOk TyQ tyN19 16 19 := TrOk.node ⟨Tryz.type19, by kernel_rfl⟩ tyN35_ok tyN51_ok
theorem tyN267_ok : TrOk TyQ tyN267 256 267 := TrOk.node ⟨Tryz.type267, by kernel_rfl⟩ TrOk.nil TrOk.nil
theorem tyN395_ok : TrOk TyQ tyN395 256 395 := TrOk.node ⟨Tryz.type395, by kernel_rfl⟩ TrOk.nil TrOk.nil
theorem tyN139_ok : TrOk TyQ tyN139 128 139 := TrOk.node ⟨Tryz.type139, by kernel_rfl⟩ tyN267_ok tyN395_ok
theorem tyN331_ok : TrOk TyQ tyN331 256 331 := TrOk.node ⟨Tryz.type331, by kernel_rfl⟩ TrOk.nil TrOk.nil
theorem tyN459_ok : TrOk TyQ tyN459 256 459 := TrOk.node ⟨Tryz.type459, by kernel_rfl⟩ TrOk.nil TrOk.nil
theorem tyN203_ok : TrOk TyQ tyN203 128 203 := TrOk.node ⟨Tryz.type203, by kernel_rfl⟩ tyN331_ok tyN459_ok
theorem tyN75_ok : TrOk TyQ tyN75 64 75 := TrOk.node ⟨Tryz.type75, by kernel_rfl⟩ tyN139_ok tyN203_ok
theorem tyN299_ok : TrOk TyQ tyN299 256 299 := TrOk.node ⟨Tryz.type299, by kernel_rfl⟩ TrOk.nil TrOk.nil
theorem tyN427_ok : TrOk TyQ tyN427 256 427 := TrOk.node ⟨Tryz.type427, by kernel_rfl⟩ TrOk.nil TrOk.nil
theorem tyN171_ok : TrOk TyQ tyN171 128 171 := TrOk.node ⟨Tryz.type171, by kernel_rfl⟩ tyN299_ok tyN427_ok
theorem tyN363_ok : TrOk TyQ tyN363 256 363 := TrOk.node ⟨Tryz.type363, by kernel_rfl⟩ TrOk.nil TrOk.nil
theorem tyN235_ok : TrOk TyQ tyN235 128 235 := TrOk.node ⟨Tryz.type235, by kernel_rfl⟩ tyN363_ok TrOk.nil
theorem tyN107_ok : TrOk TyQ tyN107 64 107 := TrOk.node ⟨Tryz.type107, by kernel_rfl⟩ tyN171_ok tyN235_ok
theorem tyN43_ok : TrOk TyQ tyN43 32 43 := TrOk.node ⟨Tryz.type43, by kernel_rfl⟩ tyN75_ok tyN107_ok
theorem tyN283_ok : TrOk TyQ tyN283 256 283 := TrOk.node ⟨Tryz.type283, by kernel_rfl⟩ TrOk.nil TrOk.nil
theorem tyN411_ok : TrOk TyQ tyN411 256 411 := TrOk.node ⟨Tryz.type411, by kernel_rfl⟩ TrOk.nil TrOk.nil
theorem tyN155_ok : TrOk TyQ tyN155 128 155 := TrOk.node ⟨Tryz.type155, by kernel_rfl⟩ tyN283_ok tyN411_ok
theorem tyN347_ok : TrOk TyQ tyN347 256 347 := TrOk.node ⟨Tryz.type347, by kernel_rfl⟩ TrOk.nil TrOk.nil
theorem tyN475_ok : TrOk TyQ tyN475 256 475 := TrOk.node ⟨Tryz.type475, by kernel_rfl⟩ TrOk.nil TrOk.nil
theorem tyN219_ok : TrOk TyQ tyN219 128 219 := TrOk.node ⟨Tryz.type219, by kernel_rfl⟩ tyN347_ok tyN475_ok
theorem tyN91_ok : TrOk TyQ tyN91 64 91 := TrOk.node ⟨Tryz.type91, by kernel_rfl⟩ tyN155_ok tyN219_ok
theorem tyN315_ok : TrOk TyQ tyN315 256 315 := TrOk.node ⟨Tryz.type315, by kernel_rfl⟩ TrOk.nil TrOk.nil
theorem tyN443_ok : TrOk TyQ tyN443 256 443 := TrOk.node ⟨Tryz.type443, by kernel_rfl⟩ TrOk.nil TrOk.nil
theorem tyN187_ok : TrOk TyQ tyN187 128 187 := TrOk.node ⟨Tryz.type187, by kernel_rfl⟩ tyN315_ok tyN443_ok
theorem tyN379_ok : TrOk TyQ tyN379 256 379 := TrOk.node ⟨Tryz.type379, by kernel_rfl⟩ TrOk.nil TrOk.nil
theorem tyN251_ok : TrOk TyQ tyN251 128 251 := TrOk.node ⟨Tryz.type251, by kernel_rfl⟩ tyN379_ok TrOk.nil
theorem tyN123_ok : TrOk TyQ tyN123 64 123 := TrOk.node ⟨Tryz.type123, by kernel_rfl⟩ tyN187_ok tyN251_ok
theorem tyN59_ok : TrOk TyQ tyN59 32 59 := TrOk.node ⟨Tryz.type59, by kernel_rfl⟩ tyN91_ok tyN123_ok
theorem tyN27_ok : TrOk TyQ tyN27 16 27 := TrOk.node ⟨Tryz.type27, by kernel_rfl⟩ tyN43_ok tyN59_ok
theorem tyN11_ok : TrOk TyQ tyN11 8 11 := TrOk.node ⟨Tryz.type11, by kernel_rfl⟩ tyN19_ok tyN27_ok
theorem tyN3_ok : TrOk TyQ tyN3 4 3 := TrOk.node ⟨Tryz.type3, by kernel_rfl⟩ tyN7_ok tyN11_ok
theorem tyN257_ok : TrOk TyQ tyN257 256 257 := TrOk.node ⟨Tryz.type257, by kernel_rfl⟩ TrOk.nil TrOk.nil
theorem tyN385_ok : TrOk TyQ tyN385 256 385 := TrOk.node ⟨Tryz.type385, by kernel_rfl⟩ TrOk.nil TrOk.nil
theorem tyN129_ok : TrOk TyQ tyN129 128 129 := TrOk.node ⟨Tryz.type129, by kernel_rfl⟩ tyN257_ok tyN385_ok
theorem tyN321_ok : TrOk TyQ tyN321 256 321 := TrOk.node ⟨Tryz.type321, by kernel_rfl⟩ TrOk.nil TrOk.nil
theorem tyN449_ok : TrOk TyQ tyN449 256 449 := TrOk.node ⟨Tryz.type449, by kernel_rfl⟩ TrOk.nil TrOk.nil
theorem tyN193_ok : TrOk TyQ tyN193 128 193 := TrOk.node ⟨Tryz.type193, by kernel_rfl⟩ tyN321_ok tyN449_ok
theorem tyN65_ok : TrOk TyQ tyN65 64 65 := TrOk.node ⟨Tryz.type65, by kernel_rfl⟩ tyN129_ok tyN193_ok
theorem tyN289_ok : TrOk TyQ tyN289 256 289 := TrOk.node ⟨Tryz.type289, by kernel_rfl⟩ TrOk.nil TrOk.nil
theorem tyN417_ok : TrOk TyQ tyN417 256 417 := TrOk.node ⟨Tryz.type417, by kernel_rfl⟩ TrOk.nil TrOk.nil
theorem tyN161_ok : TrOk TyQ tyN161 128 161 := TrOk.node ⟨Tryz.type161, by kernel_rfl⟩ tyN289_ok tyN417_ok
theorem tyN353_ok : TrOk TyQ tyN353 256 353 := TrOk.node ⟨Tryz.type353, by kernel_rfl⟩ TrOk.nil TrOk.nil
theorem tyN225_ok : TrOk TyQ tyN225 128 225 := TrOk.node ⟨Tryz.type225, by kernel_rfl⟩ tyN353_ok TrOk.nil
theorem tyN97_ok : TrOk TyQ tyN97 64 97 := TrOk.node ⟨Tryz.type97, by kernel_rfl⟩ tyN161_ok tyN225_ok
theorem tyN33_ok : TrOk TyQ tyN33 32 33 := TrOk.node ⟨Tryz.type33, by kernel_rfl⟩ tyN65_ok tyN97_ok
theorem tyN273_ok : TrOk TyQ tyN273 256 273 := TrOk.node ⟨Tryz.type273, by kernel_rfl⟩ TrOk.nil TrOk.nil
theorem tyN401_ok : TrOk TyQ tyN401 256 401 := TrOk.node ⟨Tryz.type401, by kernel_rfl⟩ TrOk.nil TrOk.nil
theorem tyN145_ok : TrOk TyQ tyN145 128 145 := TrOk.node ⟨Tryz.type145, by kernel_rfl⟩ tyN273_ok tyN401_ok
theorem tyN337_ok : TrOk TyQ tyN337 256 337 := TrOk.node ⟨Tryz.type337, by kernel_rfl⟩ TrOk.nil TrOk.nil
theorem tyN465_ok : TrOk TyQ tyN465 256 465 := TrOk.node ⟨Tryz.type465, by kernel_rfl⟩ TrOk.nil TrOk.nil
theorem tyN209_ok : TrOk TyQ tyN209 128 209 := TrOk.node ⟨Tryz.type209, by kernel_rfl⟩ tyN337_ok tyN465_ok
theorem tyN81_ok : TrOk TyQ tyN81 64 81 := TrOk.node ⟨Tryz.type81, by kernel_rfl⟩ tyN145_ok tyN209_ok
theorem tyN305_ok : TrOk TyQ tyN305 256 305 := TrOk.node ⟨Tryz.type305, by kernel_rfl⟩ TrOk.nil TrOk.nil
theorem tyN433_ok : TrOk TyQ tyN433 256 433 := TrOk.node ⟨Tryz.type433, by kernel_rfl⟩ TrOk.nil TrOk.nil
theorem tyN177_ok : TrOk TyQ tyN177 128 177 := TrOk.node ⟨Tryz.type177, by kernel_rfl⟩ tyN305_ok tyN433_ok
theorem tyN369_ok : TrOk TyQ tyN369 256 369 := TrOk.node ⟨Tryz.type369, by kernel_rfl⟩ TrOk.nil TrOk.nil
theorem tyN241_ok : TrOk TyQ tyN241 128 241 := TrOk.node ⟨Tryz.type241, by kernel_rfl⟩ tyN369_ok TrOk.nil
theorem tyN113_ok : TrOk TyQ tyN113 64 113 := TrOk.node ⟨Tryz.type113, by kernel_rfl⟩ tyN177_ok tyN241_ok
theorem tyN49_ok : TrOk TyQ tyN49 32 49 := TrOk.node ⟨Tryz.type49, by kernel_rfl⟩ tyN81_ok tyN113_ok
theorem tyN17_ok : TrOk TyQ tyN17 16 17 := TrOk.node ⟨Tryz.type17, by kernel_rfl⟩ tyN33_ok tyN49_ok
theorem tyN265_ok : TrOk TyQ tyN265 256 265 := TrOk.node ⟨Tryz.type265, by kernel_rfl⟩ TrOk.nil TrOk.nil
theorem tyN393_ok : TrOk TyQ tyN393 256 393 := TrOk.node ⟨Tryz.type393, by kernel_rfl⟩ TrOk.nil TrOk.nil
theorem tyN137_ok : TrOk TyQ tyN137 128 137 := TrOk.node ⟨Tryz.type137, by kernel_rfl⟩ tyN265_ok tyN393_ok
theorem tyN329_ok : TrOk TyQ tyN329 256 329 := TrOk.node ⟨Tryz.type329, by kernel_rfl⟩ TrOk.nil TrOk.nil
theorem tyN457_ok : TrOk TyQ tyN457 256 457 := TrOk.node ⟨Tryz.type457, by kernel_rfl⟩ TrOk.nil TrOk.nil
theorem tyN201_ok : TrOk TyQ tyN201 128 201 := TrOk.node ⟨Tryz.type201, by kernel_rfl⟩ tyN329_ok tyN457_ok
theorem tyN73_ok : TrOk TyQ tyN73 64 73 := TrOk.node ⟨Tryz.type73, by kernel_rfl⟩ tyN137_ok tyN201_ok
theorem tyN297_ok : TrOk TyQ tyN297 256 297 := TrOk.node ⟨Tryz.type297, by kernel_rfl⟩ TrOk.nil TrOk.nil
theorem tyN425_ok : TrOk TyQ tyN425 256 425 := TrOk.node ⟨Tryz.type425, by kernel_rfl⟩ TrOk.nil TrOk.nil
theorem tyN169_ok : TrOk TyQ tyN169 128 169 := TrOk.node ⟨Tryz.type169, by kernel_rfl⟩ tyN297_ok tyN425_ok
theorem tyN361_ok : TrOk TyQ tyN361 256 361 := TrOk.node ⟨Tryz.type361, by kernel_rfl⟩ TrOk.nil TrOk.nil
theorem tyN233_ok : TrOk TyQ tyN233 128 233 := TrOk.node ⟨Tryz.type233, by kernel_rfl⟩ tyN361_ok TrOk.nil
theorem tyN105_ok : TrOk TyQ tyN105 64 105 := TrOk.node ⟨Tryz.type105, by kernel_rfl⟩ tyN169_ok tyN233_ok
theorem tyN41_ok : TrOk TyQ tyN41 32 41 := TrOk.node ⟨Tryz.type41, by kernel_rfl⟩ tyN73_ok tyN105_ok
theorem tyN281_ok : TrOk TyQ tyN281 256 281 := TrOk.node ⟨Tryz.type281, by kernel_rfl⟩ TrOk.nil TrOk.nil
theorem tyN409_ok : TrOk TyQ tyN409 256 409 := TrOk.node ⟨Tryz.type409, by kernel_rfl⟩ TrOk.nil TrOk.nil
theorem tyN153_ok : TrOk TyQ tyN153 128 153 := TrOk.node ⟨Tryz.type153, by kernel_rfl⟩ tyN281_ok tyN409_ok
theorem tyN345_ok : TrOk TyQ tyN345 256 345 := TrOk.node ⟨Tryz.type345, by kernel_rfl⟩ TrOk.nil TrOk.nil
theorem tyN473_ok : TrOk TyQ tyN473 256 473 := TrOk.node ⟨Tryz.type473, by kernel_rfl⟩ TrOk.nil TrOk.nil
theorem tyN217_ok : TrOk TyQ tyN217 128 217 := TrOk.node ⟨Tryz.type217, by kernel_rfl⟩ tyN345_ok tyN473_ok
theorem tyN89_ok : TrOk TyQ tyN89 64 89 := TrOk.node ⟨Tryz.type89, by kernel_rfl⟩ tyN153_ok tyN217_ok
theorem tyN313_ok : TrOk TyQ tyN313 256 313 := TrOk.node ⟨Tryz.type313, by kernel_rfl⟩ TrOk.nil TrOk.nil
theorem tyN441_ok : TrOk TyQ tyN441 256 441 := TrOk.node ⟨Tryz.type441, by kernel_rfl⟩ TrOk.nil TrOk.nil
theorem tyN185_ok : TrOk TyQ tyN185 128 185 := TrOk.node ⟨Tryz.type185, by kernel_rfl⟩ tyN313_ok tyN441_ok
theorem tyN377_ok : TrOk TyQ tyN377 256 377 := TrOk.node ⟨Tryz.type377, by kernel_rfl⟩ TrOk.nil TrOk.nil
theorem tyN249_ok : TrOk TyQ tyN249 128 249 := TrOk.node ⟨Tryz.type249, by kernel_rfl⟩ tyN377_ok TrOk.nil
theorem tyN121_ok : TrOk TyQ tyN121 64 121 := TrOk.node ⟨Tryz.type121, by kernel_rfl⟩ tyN185_ok tyN249_ok
theorem tyN57_ok : TrOk TyQ tyN57 32 57 := TrOk.node ⟨Tryz.type57, by kernel_rfl⟩ tyN89_ok tyN121_ok
theorem tyN25_ok : TrOk TyQ tyN25 16 25 := TrOk.node ⟨Tryz.type25, by kernel_rfl⟩ tyN41_ok tyN57_ok
theorem tyN9_ok : TrOk TyQ tyN9 8 9 := TrOk.node ⟨Tryz.type9, by kernel_rfl⟩ tyN17_ok tyN25_ok
theorem tyN261_ok : TrOk TyQ tyN261 256 261 := TrOk.node ⟨Tryz.type261, by kernel_rfl⟩ TrOk.nil TrOk.nil
theorem tyN389_ok : TrOk TyQ tyN389 256 389 := TrOk.node ⟨Tryz.type389, by kernel_rfl⟩ TrOk.nil TrOk.nil
theorem tyN133_ok : TrOk TyQ tyN133 128 133 := TrOk.node ⟨Tryz.type133, by kernel_rfl⟩ tyN261_ok tyN389_ok
theorem tyN325_ok : TrOk TyQ tyN325 256 325 := TrOk.node ⟨Tryz.type325, by kernel_rfl⟩ TrOk.nil TrOk.nil
theorem tyN453_ok : TrOk TyQ tyN453 256 453 := TrOk.node ⟨Tryz.type453, by kernel_rfl⟩ TrOk.nil TrOk.nil
theorem tyN197_ok : TrOk TyQ tyN197 128 197 := TrOk.node ⟨Tryz.type197, by kernel_rfl⟩ tyN325_ok tyN453_ok
theorem tyN69_ok : TrOk TyQ tyN69 64 69 := TrOk.node ⟨Tryz.type69, by kernel_rfl⟩ tyN133_ok tyN197_ok
theorem tyN293_ok : TrOk TyQ tyN293 256 293 := TrOk.node ⟨Tryz.type293, by kernel_rfl⟩ TrOk.nil TrOk.nil
theorem tyN421_ok : TrOk TyQ tyN421 256 421 := TrOk.node ⟨Tryz.type421, by kernel_rfl⟩ TrOk.nil TrOk.nil
theorem tyN165_ok : TrOk TyQ tyN165 128 165 := TrOk.node ⟨Tryz.type165, by kernel_rfl⟩ tyN293_ok tyN421_ok
theorem tyN357_ok : TrOk TyQ tyN357 256 357 := TrOk.node ⟨Tryz.type357, by kernel_rfl⟩ TrOk.nil TrOk.nil
theorem tyN229_ok : TrOk TyQ tyN229 128 229 := TrOk.node ⟨Tryz.type229, by kernel_rfl⟩ tyN357_ok TrOk.nil
theorem tyN101_ok : TrOk TyQ tyN101 64 101 := TrOk.node ⟨Tryz.type101, by kernel_rfl⟩ tyN165_ok tyN229_ok
theorem tyN37_ok : TrOk TyQ tyN37 32 37 := TrOk.node ⟨Tryz.type37, by kernel_rfl⟩ tyN69_ok tyN101_ok
theorem tyN277_ok : TrOk TyQ tyN277 256 277 := TrOk.node ⟨Tryz.type277, by kernel_rfl⟩ TrOk.nil TrOk.nil
theorem tyN405_ok : TrOk TyQ tyN405 256 405 := TrOk.node ⟨Tryz.type405, by kernel_rfl⟩ TrOk.nil TrOk.nil
theorem tyN149_ok : TrOk TyQ tyN149 128 149 := TrOk.node ⟨Tryz.type149, by kernel_rfl⟩ tyN277_ok tyN405_ok
theorem tyN341_ok : TrOk TyQ tyN341 256 341 := TrOk.node ⟨Tryz.type341, by kernel_rfl⟩ TrOk.nil TrOk.nil
theorem tyN469_ok : TrOk TyQ tyN469 256 469 := TrOk.node ⟨Tryz.type469, by kernel_rfl⟩ TrOk.nil TrOk.nil
theorem tyN213_ok : TrOk TyQ tyN213 128 213 := TrOk.node ⟨Tryz.type213, by kernel_rfl⟩ tyN341_ok tyN469_ok
theorem tyN85_ok : TrOk TyQ tyN85 64 85 := TrOk.node ⟨Tryz.type85, by kernel_rfl⟩ tyN149_ok tyN213_ok
theorem tyN309_ok : TrOk TyQ tyN309 256 309 := TrOk.node ⟨Tryz.type309, by kernel_rfl⟩ TrOk.nil TrOk.nil
theorem tyN437_ok : TrOk TyQ tyN437 256 437 := TrOk.node ⟨Tryz.type437, by kernel_rfl⟩ TrOk.nil TrOk.nil
theorem tyN181_ok : TrOk TyQ tyN181 128 181 := TrOk.node ⟨Tryz.type181, by kernel_rfl⟩ tyN309_ok tyN437_ok
theorem tyN373_ok : TrOk TyQ tyN373 256 373 := TrOk.node ⟨Tryz.type373, by kernel_rfl⟩ TrOk.nil TrOk.nil
theorem tyN245_ok : TrOk TyQ tyN245 128 245 := TrOk.node ⟨Tryz.type245, by kernel_rfl⟩ tyN373_ok TrOk.nil
theorem tyN117_ok : TrOk TyQ tyN117 64 117 := TrOk.node ⟨Tryz.type117, by kernel_rfl⟩ tyN181_ok tyN245_ok
theorem tyN53_ok : TrOk TyQ tyN53 32 53 := TrOk.node ⟨Tryz.type53, by kernel_rfl⟩ tyN85_ok tyN117_ok
theorem tyN21_ok : TrOk TyQ tyN21 16 21 := TrOk.node ⟨Tryz.type21, by kernel_rfl⟩ tyN37_ok tyN53_ok
theorem tyN269_ok : TrOk TyQ tyN269 256 269 := TrOk.node ⟨Tryz.type269, by kernel_rfl⟩ TrOk.nil TrOk.nil
theorem tyN397_ok : TrOk TyQ tyN397 256 397 := TrOk.node ⟨Tryz.type397, by kernel_rfl⟩ TrOk.nil TrOk.nil
theorem tyN141_ok : TrOk TyQ tyN141 128 141 := TrOk.node ⟨Tryz.type141, by kernel_rfl⟩ tyN269_ok tyN397_ok
theorem tyN333_ok : TrOk TyQ tyN333 256 333 := TrOk.node ⟨Tryz.type333, by kernel_rfl⟩ TrOk.nil TrOk.nil
theorem tyN461_ok : TrOk TyQ tyN461 256 461 := TrOk.node ⟨Tryz.type461, by kernel_rfl⟩ TrOk.nil TrOk.nil
theorem tyN205_ok : TrOk TyQ tyN205 128 205 := TrOk.node ⟨Tryz.type205, by kernel_rfl⟩ tyN333_ok tyN461_ok
theorem tyN77_ok : TrOk TyQ tyN77 64 77 := TrOk.node ⟨Tryz.type77, by kernel_rfl⟩ tyN141_ok tyN205_ok
theorem tyN301_ok : TrOk TyQ tyN301 256 301 := TrOk.node ⟨Tryz.type301, by kernel_rfl⟩ TrOk.nil TrOk.nil
theorem tyN429_ok : TrOk TyQ tyN429 256 429 := TrOk.node ⟨Tryz.type429, by kernel_rfl⟩ TrOk.nil TrOk.nil
theorem tyN173_ok : TrOk TyQ tyN173 128 173 := TrOk.node ⟨Tryz.type173, by kernel_rfl⟩ tyN301_ok tyN429_ok
theorem tyN365_ok : TrOk TyQ tyN365 256 365 := TrOk.node ⟨Tryz.type365, by kernel_rfl⟩ TrOk.nil TrOk.nil
theorem tyN237_ok : TrOk TyQ tyN237 128 237 := TrOk.node ⟨Tryz.type237, by kernel_rfl⟩ tyN365_ok TrOk.nil
theorem tyN109_ok : TrOk TyQ tyN109 64 109 := TrOk.node ⟨Tryz.type109, by kernel_rfl⟩ tyN173_ok tyN237_ok
theorem tyN45_ok : TrOk TyQ tyN45 32 45 := TrOk.node ⟨Tryz.type45, by kernel_rfl⟩ tyN77_ok tyN109_ok
theorem tyN285_ok : TrOk TyQ tyN285 256 285 := TrOk.node ⟨Tryz.type285, by kernel_rfl⟩ TrOk.nil TrOk.nil
theorem tyN413_ok : TrOk TyQ tyN413 256 413 := TrOk.node ⟨Tryz.type413, by kernel_rfl⟩ TrOk.nil TrOk.nil
theorem tyN157_ok : TrOk TyQ tyN157 128 157 := TrOk.node ⟨Tryz.type157, by kernel_rfl⟩ tyN285_ok tyN413_ok
theorem tyN349_ok : TrOk TyQ tyN349 256 349 := TrOk.node ⟨Tryz.type349, by kernel_rfl⟩ TrOk.nil TrOk.nil
theorem tyN477_ok : TrOk TyQ tyN477 256 477 := TrOk.node ⟨Tryz.type477, by kernel_rfl⟩ TrOk.nil TrOk.nil
theorem tyN221_ok : TrOk TyQ tyN221 128 221 := TrOk.node ⟨Tryz.type221, by kernel_rfl⟩ tyN349_ok tyN477_ok
theorem tyN93_ok : TrOk TyQ tyN93 64 93 := TrOk.node ⟨Tryz.type93, by kernel_rfl⟩ tyN157_ok tyN221_ok
theorem tyN317_ok : TrOk TyQ tyN317 256 317 := TrOk.node ⟨Tryz.type317, by kernel_rfl⟩ TrOk.nil TrOk.nil
theorem tyN445_ok : TrOk TyQ tyN445 256 445 := TrOk.node ⟨Tryz.type445, by kernel_rfl⟩ TrOk.nil TrOk.nil
theorem tyN189_ok : TrOk TyQ tyN189 128 189 := TrOk.node ⟨Tryz.type189, by kernel_rfl⟩ tyN317_ok tyN445_ok
theorem tyN381_ok : TrOk TyQ tyN381 256 381 := TrOk.node ⟨Tryz.type381, by kernel_rfl⟩ TrOk.nil TrOk.nil
theorem tyN253_ok : TrOk TyQ tyN253 128 253 := TrOk.node ⟨Tryz.type253, by kernel_rfl⟩ tyN381_ok TrOk.nil
theorem tyN125_ok : TrOk TyQ tyN125 64 125 := TrOk.node ⟨Tryz.type125, by kernel_rfl⟩ tyN189_ok tyN253_ok
theorem tyN61_ok : TrOk TyQ tyN61 32 61 := TrOk.node ⟨Tryz.type61, by kernel_rfl⟩ tyN93_ok tyN125_ok
theorem tyN29_ok : TrOk TyQ tyN29 16 29 := TrOk.node ⟨Tryz.type29, by kernel_rfl⟩ tyN45_ok tyN61_ok
theorem tyN13_ok : TrOk TyQ tyN13 8 13 := TrOk.node ⟨Tryz.type13, by kernel_rfl⟩ tyN21_ok tyN29_ok
theorem tyN5_ok : TrOk TyQ tyN5 4 5 := TrOk.node ⟨Tryz.type5, by kernel_rfl⟩ tyN9_ok tyN13_ok
theorem tyN1_ok : TrOk TyQ tyN1 2 1 := TrOk.node ⟨Tryz.type1, by kernel_rfl⟩ tyN3_ok tyN5_ok
theorem tyN256_ok : TrOk TyQ tyN256 256 256 := TrOk.node ⟨Tryz.type256, by kernel_rfl⟩ TrOk.nil TrOk.nil
theorem tyN384_ok : TrOk TyQ tyN384 256 384 := TrOk.node ⟨Tryz.type384, by kernel_rfl⟩ TrOk.nil TrOk.nil
theorem tyN128_ok : TrOk TyQ tyN128 128 128 := TrOk.node ⟨Tryz.type128, by kernel_rfl⟩ tyN256_ok tyN384_ok
theorem tyN320_ok : TrOk TyQ tyN320 256 320 := TrOk.node ⟨Tryz.type320, by kernel_rfl⟩ TrOk.nil TrOk.nil
theorem tyN448_ok : TrOk TyQ tyN448 256 448 := TrOk.node ⟨Tryz.type448, by kernel_rfl⟩ TrOk.nil TrOk.nil
theorem tyN192_ok : TrOk TyQ tyN192 128 192 := TrOk.node ⟨Tryz.type192, by kernel_rfl⟩ tyN320_ok tyN448_ok
theorem tyN64_ok : TrOk TyQ tyN64 64 64 := TrOk.node ⟨Tryz.type64, by kernel_rfl⟩ tyN128_ok tyN192_ok
theorem tyN288_ok : TrOk TyQ tyN288 256 288 := TrOk.node ⟨Tryz.type288, by kernel_rfl⟩ TrOk.nil TrOk.nil
theorem tyN416_ok : TrOk TyQ tyN416 256 416 := TrOk.node ⟨Tryz.type416, by kernel_rfl⟩ TrOk.nil TrOk.nil
theorem tyN160_ok : TrOk TyQ tyN160 128 160 := TrOk.node ⟨Tryz.type160, by kernel_rfl⟩ tyN288_ok tyN416_ok
theorem tyN352_ok : TrOk TyQ tyN352 256 352 := TrOk.node ⟨Tryz.type352, by kernel_rfl⟩ TrOk.nil TrOk.nil
theorem tyN224_ok : TrOk TyQ tyN224 128 224 := TrOk.node ⟨Tryz.type224, by kernel_rfl⟩ tyN352_ok TrOk.nil
theorem tyN96_ok : TrOk TyQ tyN96 64 96 := TrOk.node ⟨Tryz.type96, by kernel_rfl⟩ tyN160_ok tyN224_ok
theorem tyN32_ok : TrOk TyQ tyN32 32 32 := TrOk.node ⟨Tryz.type32, by kernel_rfl⟩ tyN64_ok tyN96_ok
theorem tyN272_ok : TrOk TyQ tyN272 256 272 := TrOk.node ⟨Tryz.type272, by kernel_rfl⟩ TrOk.nil TrOk.nil
theorem tyN400_ok : TrOk TyQ tyN400 256 400 := TrOk.node ⟨Tryz.type400, by kernel_rfl⟩ TrOk.nil TrOk.nil
theorem tyN144_ok : TrOk TyQ tyN144 128 144 := TrOk.node ⟨Tryz.type144, by kernel_rfl⟩ tyN272_ok tyN400_ok
theorem tyN336_ok : TrOk TyQ tyN336 256 336 := TrOk.node ⟨Tryz.type336, by kernel_rfl⟩ TrOk.nil TrOk.nil
theorem tyN464_ok : TrOk TyQ tyN464 256 464 := TrOk.node ⟨Tryz.type464, by kernel_rfl⟩ TrOk.nil TrOk.nil
theorem tyN208_ok : TrOk TyQ tyN208 128 208 := TrOk.node ⟨Tryz.type208, by kernel_rfl⟩ tyN336_ok tyN464_ok
theorem tyN80_ok : TrOk TyQ tyN80 64 80 := TrOk.node ⟨Tryz.type80, by kernel_rfl⟩ tyN144_ok tyN208_ok
theorem tyN304_ok : TrOk TyQ tyN304 256 304 := TrOk.node ⟨Tryz.type304, by kernel_rfl⟩ TrOk.nil TrOk.nil
theorem tyN432_ok : TrOk TyQ tyN432 256 432 := TrOk.node ⟨Tryz.type432, by kernel_rfl⟩ TrOk.nil TrOk.nil
theorem tyN176_ok : TrOk TyQ tyN176 128 176 := TrOk.node ⟨Tryz.type176, by kernel_rfl⟩ tyN304_ok tyN432_ok
theorem tyN368_ok : TrOk TyQ tyN368 256 368 := TrOk.node ⟨Tryz.type368, by kernel_rfl⟩ TrOk.nil TrOk.nil
theorem tyN240_ok : TrOk TyQ tyN240 128 240 := TrOk.node ⟨Tryz.type240, by kernel_rfl⟩ tyN368_ok TrOk.nil
theorem tyN112_ok : TrOk TyQ tyN112 64 112 := TrOk.node ⟨Tryz.type112, by kernel_rfl⟩ tyN176_ok tyN240_ok
theorem tyN48_ok : TrOk TyQ tyN48 32 48 := TrOk.node ⟨Tryz.type48, by kernel_rfl⟩ tyN80_ok tyN112_ok
theorem tyN16_ok : TrOk TyQ tyN16 16 16 := TrOk.node ⟨Tryz.type16, by kernel_rfl⟩ tyN32_ok tyN48_ok
theorem tyN264_ok : TrOk TyQ tyN264 256 264 := TrOk.node ⟨Tryz.type264, by kernel_rfl⟩ TrOk.nil TrOk.nil
theorem tyN392_ok : TrOk TyQ tyN392 256 392 := TrOk.node ⟨Tryz.type392, by kernel_rfl⟩ TrOk.nil TrOk.nil
theorem tyN136_ok : TrOk TyQ tyN136 128 136 := TrOk.node ⟨Tryz.type136, by kernel_rfl⟩ tyN264_ok tyN392_ok
theorem tyN328_ok : TrOk TyQ tyN328 256 328 := TrOk.node ⟨Tryz.type328, by kernel_rfl⟩ TrOk.nil TrOk.nil
theorem tyN456_ok : TrOk TyQ tyN456 256 456 := TrOk.node ⟨Tryz.type456, by kernel_rfl⟩ TrOk.nil TrOk.nil
theorem tyN200_ok : TrOk TyQ tyN200 128 200 := TrOk.node ⟨Tryz.type200, by kernel_rfl⟩ tyN328_ok tyN456_ok
theorem tyN72_ok : TrOk TyQ tyN72 64 72 := TrOk.node ⟨Tryz.type72, by kernel_rfl⟩ tyN136_ok tyN200_ok
theorem tyN296_ok : TrOk TyQ tyN296 256 296 := TrOk.node ⟨Tryz.type296, by kernel_rfl⟩ TrOk.nil TrOk.nil
theorem tyN424_ok : TrOk TyQ tyN424 256 424 := TrOk.node ⟨Tryz.type424, by kernel_rfl⟩ TrOk.nil TrOk.nil
theorem tyN168_ok : TrOk TyQ tyN168 128 168 := TrOk.node ⟨Tryz.type168, by kernel_rfl⟩ tyN296_ok tyN424_ok
theorem tyN360_ok : TrOk TyQ tyN360 256 360 := TrOk.node ⟨Tryz.type360, by kernel_rfl⟩ TrOk.nil TrOk.nil
theorem tyN232_ok : TrOk TyQ tyN232 128 232 := TrOk.node ⟨Tryz.type232, by kernel_rfl⟩ tyN360_ok TrOk.nil
theorem tyN104_ok : TrOk TyQ tyN104 64 104 := TrOk.node ⟨Tryz.type104, by kernel_rfl⟩ tyN168_ok tyN232_ok
theorem tyN40_ok : TrOk TyQ tyN40 32 40 := TrOk.node ⟨Tryz.type40, by kernel_rfl⟩ tyN72_ok tyN104_ok
theorem tyN280_ok : TrOk TyQ tyN280 256 280 := TrOk.node ⟨Tryz.type280, by kernel_rfl⟩ TrOk.nil TrOk.nil
theorem tyN408_ok : TrOk TyQ tyN408 256 408 := TrOk.node ⟨Tryz.type408, by kernel_rfl⟩ TrOk.nil TrOk.nil
theorem tyN152_ok : TrOk TyQ tyN152 128 152 := TrOk.node ⟨Tryz.type152, by kernel_rfl⟩ tyN280_ok tyN408_ok
theorem tyN344_ok : TrOk TyQ tyN344 256 344 := TrOk.node ⟨Tryz.type344, by kernel_rfl⟩ TrOk.nil TrOk.nil
theorem tyN472_ok : TrOk TyQ tyN472 256 472 := TrOk.node ⟨Tryz.type472, by kernel_rfl⟩ TrOk.nil TrOk.nil
theorem tyN216_ok : TrOk TyQ tyN216 128 216 := TrOk.node ⟨Tryz.type216, by kernel_rfl⟩ tyN344_ok tyN472_ok
theorem tyN88_ok : TrOk TyQ tyN88 64 88 := TrOk.node ⟨Tryz.type88, by kernel_rfl⟩ tyN152_ok tyN216_ok
theorem tyN312_ok : TrOk TyQ tyN312 256 312 := TrOk.node ⟨Tryz.type312, by kernel_rfl⟩ TrOk.nil TrOk.nil
theorem tyN440_ok : TrOk TyQ tyN440 256 440 := TrOk.node ⟨Tryz.type440, by kernel_rfl⟩ TrOk.nil TrOk.nil
theorem tyN184_ok : TrOk TyQ tyN184 128 184 := TrOk.node ⟨Tryz.type184, by kernel_rfl⟩ tyN312_ok tyN440_ok
theorem tyN376_ok : TrOk TyQ tyN376 256 376 := TrOk.node ⟨Tryz.type376, by kernel_rfl⟩ TrOk.nil TrOk.nil
theorem tyN248_ok : TrOk TyQ tyN248 128 248 := TrOk.node ⟨Tryz.type248, by kernel_rfl⟩ tyN376_ok TrOk.nil
theorem tyN120_ok : TrOk TyQ tyN120 64 120 := TrOk.node ⟨Tryz.type120, by kernel_rfl⟩ tyN184_ok tyN248_ok
theorem tyN56_ok : TrOk TyQ tyN56 32 56 := TrOk.node ⟨Tryz.type56, by kernel_rfl⟩ tyN88_ok tyN120_ok
theorem tyN24_ok : TrOk TyQ tyN24 16 24 := TrOk.node ⟨Tryz.type24, by kernel_rfl⟩ tyN40_ok tyN56_ok
theorem tyN8_ok : TrOk TyQ tyN8 8 8 := TrOk.node ⟨Tryz.type8, by kernel_rfl⟩ tyN16_ok tyN24_ok
theorem tyN260_ok : TrOk TyQ tyN260 256 260 := TrOk.node ⟨Tryz.type260, by kernel_rfl⟩ TrOk.nil TrOk.nil
theorem tyN388_ok : TrOk TyQ tyN388 256 388 := TrOk.node ⟨Tryz.type388, by kernel_rfl⟩ TrOk.nil TrOk.nil
theorem tyN132_ok : TrOk TyQ tyN132 128 132 := TrOk.node ⟨Tryz.type132, by kernel_rfl⟩ tyN260_ok tyN388_ok
theorem tyN324_ok : TrOk TyQ tyN324 256 324 := TrOk.node ⟨Tryz.type324, by kernel_rfl⟩ TrOk.nil TrOk.nil
theorem tyN452_ok : TrOk TyQ tyN452 256 452 := TrOk.node ⟨Tryz.type452, by kernel_rfl⟩ TrOk.nil TrOk.nil
theorem tyN196_ok : TrOk TyQ tyN196 128 196 := TrOk.node ⟨Tryz.type196, by kernel_rfl⟩ tyN324_ok tyN452_ok
theorem tyN68_ok : TrOk TyQ tyN68 64 68 := TrOk.node ⟨Tryz.type68, by kernel_rfl⟩ tyN132_ok tyN196_ok
theorem tyN292_ok : TrOk TyQ tyN292 256 292 := TrOk.node ⟨Tryz.type292, by kernel_rfl⟩ TrOk.nil TrOk.nil
theorem tyN420_ok : TrOk TyQ tyN420 256 420 := TrOk.node ⟨Tryz.type420, by kernel_rfl⟩ TrOk.nil TrOk.nil
theorem tyN164_ok : TrOk TyQ tyN164 128 164 := TrOk.node ⟨Tryz.type164, by kernel_rfl⟩ tyN292_ok tyN420_ok
theorem tyN356_ok : TrOk TyQ tyN356 256 356 := TrOk.node ⟨Tryz.type356, by kernel_rfl⟩ TrOk.nil TrOk.nil
theorem tyN228_ok : TrOk TyQ tyN228 128 228 := TrOk.node ⟨Tryz.type228, by kernel_rfl⟩ tyN356_ok TrOk.nil
theorem tyN100_ok : TrOk TyQ tyN100 64 100 := TrOk.node ⟨Tryz.type100, by kernel_rfl⟩ tyN164_ok tyN228_ok
theorem tyN36_ok : TrOk TyQ tyN36 32 36 := TrOk.node ⟨Tryz.type36, by kernel_rfl⟩ tyN68_ok tyN100_ok
theorem tyN276_ok : TrOk TyQ tyN276 256 276 := TrOk.node ⟨Tryz.type276, by kernel_rfl⟩ TrOk.nil TrOk.nil
theorem tyN404_ok : TrOk TyQ tyN404 256 404 := TrOk.node ⟨Tryz.type404, by kernel_rfl⟩ TrOk.nil TrOk.nil
theorem tyN148_ok : TrOk TyQ tyN148 128 148 := TrOk.node ⟨Tryz.type148, by kernel_rfl⟩ tyN276_ok tyN404_ok
theorem tyN340_ok : TrOk TyQ tyN340 256 340 := TrOk.node ⟨Tryz.type340, by kernel_rfl⟩ TrOk.nil TrOk.nil
theorem tyN468_ok : TrOk TyQ tyN468 256 468 := TrOk.node ⟨Tryz.type468, by kernel_rfl⟩ TrOk.nil TrOk.nil
theorem tyN212_ok : TrOk TyQ tyN212 128 212 := TrOk.node ⟨Tryz.type212, by kernel_rfl⟩ tyN340_ok tyN468_ok
theorem tyN84_ok : TrOk TyQ tyN84 64 84 := TrOk.node ⟨Tryz.type84, by kernel_rfl⟩ tyN148_ok tyN212_ok
theorem tyN308_ok : TrOk TyQ tyN308 256 308 := TrOk.node ⟨Tryz.type308, by kernel_rfl⟩ TrOk.nil TrOk.nil
theorem tyN436_ok : TrOk TyQ tyN436 256 436 := TrOk.node ⟨Tryz.type436, by kernel_rfl⟩ TrOk.nil TrOk.nil
theorem tyN180_ok : TrOk TyQ tyN180 128 180 := TrOk.node ⟨Tryz.type180, by kernel_rfl⟩ tyN308_ok tyN436_ok
theorem tyN372_ok : TrOk TyQ tyN372 256 372 := TrOk.node ⟨Tryz.type372, by kernel_rfl⟩ TrOk.nil TrOk.nil
theorem tyN244_ok : TrOk TyQ tyN244 128 244 := TrOk.node ⟨Tryz.type244, by kernel_rfl⟩ tyN372_ok TrOk.nil
theorem tyN116_ok : TrOk TyQ tyN116 64 116 := TrOk.node ⟨Tryz.type116, by kernel_rfl⟩ tyN180_ok tyN244_ok
theorem tyN52_ok : TrOk TyQ tyN52 32 52 := TrOk.node ⟨Tryz.type52, by kernel_rfl⟩ tyN84_ok tyN116_ok
theorem tyN20_ok : TrOk TyQ tyN20 16 20 := TrOk.node ⟨Tryz.type20, by kernel_rfl⟩ tyN36_ok tyN52_ok
theorem tyN268_ok : TrOk TyQ tyN268 256 268 := TrOk.node ⟨Tryz.type268, by kernel_rfl⟩ TrOk.nil TrOk.nil
theorem tyN396_ok : TrOk TyQ tyN396 256 396 := TrOk.node ⟨Tryz.type396, by kernel_rfl⟩ TrOk.nil TrOk.nil
theorem tyN140_ok : TrOk TyQ tyN140 128 140 := TrOk.node ⟨Tryz.type140, by kernel_rfl⟩ tyN268_ok tyN396_ok
theorem tyN332_ok : TrOk TyQ tyN332 256 332 := TrOk.node ⟨Tryz.type332, by kernel_rfl⟩ TrOk.nil TrOk.nil
theorem tyN460_ok : TrOk TyQ tyN460 256 460 := TrOk.node ⟨Tryz.type460, by kernel_rfl⟩ TrOk.nil TrOk.nil
theorem tyN204_ok : TrOk TyQ tyN204 128 204 := TrOk.node ⟨Tryz.type204, by kernel_rfl⟩ tyN332_ok tyN460_ok
theorem tyN76_ok : TrOk TyQ tyN76 64 76 := TrOk.node ⟨Tryz.type76, by kernel_rfl⟩ tyN140_ok tyN204_ok
theorem tyN300_ok : TrOk TyQ tyN300 256 300 := TrOk.node ⟨Tryz.type300, by kernel_rfl⟩ TrOk.nil TrOk.nil
theorem tyN428_ok : TrOk TyQ tyN428 256 428 := TrOk.node ⟨Tryz.type428, by kernel_rfl⟩ TrOk.nil TrOk.nil
theorem tyN172_ok : TrOk TyQ tyN172 128 172 := TrOk.node ⟨Tryz.type172, by kernel_rfl⟩ tyN300_ok tyN428_ok
theorem tyN364_ok : TrOk TyQ tyN364 256 364 := TrOk.node ⟨Tryz.type364, by kernel_rfl⟩ TrOk.nil TrOk.nil
theorem tyN236_ok : TrOk TyQ tyN236 128 236 := TrOk.node ⟨Tryz.type236, by kernel_rfl⟩ tyN364_ok TrOk.nil
theorem tyN108_ok : TrOk TyQ tyN108 64 108 := TrOk.node ⟨Tryz.type108, by kernel_rfl⟩ tyN172_ok tyN236_ok
theorem tyN44_ok : TrOk TyQ tyN44 32 44 := TrOk.node ⟨Tryz.type44, by kernel_rfl⟩ tyN76_ok tyN108_ok
theorem tyN284_ok : TrOk TyQ tyN284 256 284 := TrOk.node ⟨Tryz.type284, by kernel_rfl⟩ TrOk.nil TrOk.nil
theorem tyN412_ok : TrOk TyQ tyN412 256 412 := TrOk.node ⟨Tryz.type412, by kernel_rfl⟩ TrOk.nil TrOk.nil
theorem tyN156_ok : TrOk TyQ tyN156 128 156 := TrOk.node ⟨Tryz.type156, by kernel_rfl⟩ tyN284_ok tyN412_ok
theorem tyN348_ok : TrOk TyQ tyN348 256 348 := TrOk.node ⟨Tryz.type348, by kernel_rfl⟩ TrOk.nil TrOk.nil
theorem tyN476_ok : TrOk TyQ tyN476 256 476 := TrOk.node ⟨Tryz.type476, by kernel_rfl⟩ TrOk.nil TrOk.nil
theorem tyN220_ok : TrOk TyQ tyN220 128 220 := TrOk.node ⟨Tryz.type220, by kernel_rfl⟩ tyN348_ok tyN476_ok
theorem tyN92_ok : TrOk TyQ tyN92 64 92 := TrOk.node ⟨Tryz.type92, by kernel_rfl⟩ tyN156_ok tyN220_ok
theorem tyN316_ok : TrOk TyQ tyN316 256 316 := TrOk.node ⟨Tryz.type316, by kernel_rfl⟩ TrOk.nil TrOk.nil
theorem tyN444_ok : TrOk TyQ tyN444 256 444 := TrOk.node ⟨Tryz.type444, by kernel_rfl⟩ TrOk.nil TrOk.nil
theorem tyN188_ok : TrOk TyQ tyN188 128 188 := TrOk.node ⟨Tryz.type188, by kernel_rfl⟩ tyN316_ok tyN444_ok
theorem tyN380_ok : TrOk TyQ tyN380 256 380 := TrOk.node ⟨Tryz.type380, by kernel_rfl⟩ TrOk.nil TrOk.nil
theorem tyN252_ok : TrOk TyQ tyN252 128 252 := TrOk.node ⟨Tryz.type252, by kernel_rfl⟩ tyN380_ok TrOk.nil
theorem tyN124_ok : TrOk TyQ tyN124 64 124 := TrOk.node ⟨Tryz.type124, by kernel_rfl⟩ tyN188_ok tyN252_ok
theorem tyN60_ok : TrOk TyQ tyN60 32 60 := TrOk.node ⟨Tryz.type60, by kernel_rfl⟩ tyN92_ok tyN124_ok
theorem tyN28_ok : TrOk TyQ tyN28 16 28 := TrOk.node ⟨Tryz.type28, by kernel_rfl⟩ tyN44_ok tyN60_ok
theorem tyN12_ok : TrOk TyQ tyN12 8 12 := TrOk.node ⟨Tryz.type12, by kernel_rfl⟩ tyN20_ok tyN28_ok
theorem tyN4_ok : TrOk TyQ tyN4 4 4 := TrOk.node ⟨Tryz.type4, by kernel_rfl⟩ tyN8_ok tyN12_ok
theorem tyN258_ok : TrOk TyQ tyN258 256 258 := TrOk.node ⟨Tryz.type258, by kernel_rfl⟩ TrOk.nil TrOk.nil
theorem tyN386_ok : TrOk TyQ tyN386 256 386 := TrOk.node ⟨Tryz.type386, by kernel_rfl⟩ TrOk.nil TrOk.nil
theorem tyN130_ok : TrOk TyQ tyN130 128 130 := TrOk.node ⟨Tryz.type130, by kernel_rfl⟩ tyN258_ok tyN386_ok
theorem tyN322_ok : TrOk TyQ tyN322 256 322 := TrOk.node ⟨Tryz.type322, by kernel_rfl⟩ TrOk.nil TrOk.nil
theorem tyN450_ok : TrOk TyQ tyN450 256 450 := TrOk.node ⟨Tryz.type450, by kernel_rfl⟩ TrOk.nil TrOk.nil
theorem tyN194_ok : TrOk TyQ tyN194 128 194 := TrOk.node ⟨Tryz.type194, by kernel_rfl⟩ tyN322_ok tyN450_ok
theorem tyN66_ok : TrOk TyQ tyN66 64 66 := TrOk.node ⟨Tryz.type66, by kernel_rfl⟩ tyN130_ok tyN194_ok
theorem tyN290_ok : TrOk TyQ tyN290 256 290 := TrOk.node ⟨Tryz.type290, by kernel_rfl⟩ TrOk.nil TrOk.nil
theorem tyN418_ok : TrOk TyQ tyN418 256 418 := TrOk.node ⟨Tryz.type418, by kernel_rfl⟩ TrOk.nil TrOk.nil
theorem tyN162_ok : TrOk TyQ tyN162 128 162 := TrOk.node ⟨Tryz.type162, by kernel_rfl⟩ tyN290_ok tyN418_ok
theorem tyN354_ok : TrOk TyQ tyN354 256 354 := TrOk.node ⟨Tryz.type354, by kernel_rfl⟩ TrOk.nil TrOk.nil
theorem tyN226_ok : TrOk TyQ tyN226 128 226 := TrOk.node ⟨Tryz.type226, by kernel_rfl⟩ tyN354_ok TrOk.nil
theorem tyN98_ok : TrOk TyQ tyN98 64 98 := TrOk.node ⟨Tryz.type98, by kernel_rfl⟩ tyN162_ok tyN226_ok
theorem tyN34_ok : TrOk TyQ tyN34 32 34 := TrOk.node ⟨Tryz.type34, by kernel_rfl⟩ tyN66_ok tyN98_ok
theorem tyN274_ok : TrOk TyQ tyN274 256 274 := TrOk.node ⟨Tryz.type274, by kernel_rfl⟩ TrOk.nil TrOk.nil
theorem tyN402_ok : TrOk TyQ tyN402 256 402 := TrOk.node ⟨Tryz.type402, by kernel_rfl⟩ TrOk.nil TrOk.nil
theorem tyN146_ok : TrOk TyQ tyN146 128 146 := TrOk.node ⟨Tryz.type146, by kernel_rfl⟩ tyN274_ok tyN402_ok
theorem tyN338_ok : TrOk TyQ tyN338 256 338 := TrOk.node ⟨Tryz.type338, by kernel_rfl⟩ TrOk.nil TrOk.nil
theorem tyN466_ok : TrOk TyQ tyN466 256 466 := TrOk.node ⟨Tryz.type466, by kernel_rfl⟩ TrOk.nil TrOk.nil
theorem tyN210_ok : TrOk TyQ tyN210 128 210 := TrOk.node ⟨Tryz.type210, by kernel_rfl⟩ tyN338_ok tyN466_ok
theorem tyN82_ok : TrOk TyQ tyN82 64 82 := TrOk.node ⟨Tryz.type82, by kernel_rfl⟩ tyN146_ok tyN210_ok
theorem tyN306_ok : TrOk TyQ tyN306 256 306 := TrOk.node ⟨Tryz.type306, by kernel_rfl⟩ TrOk.nil TrOk.nil
theorem tyN434_ok : TrOk TyQ tyN434 256 434 := TrOk.node ⟨Tryz.type434, by kernel_rfl⟩ TrOk.nil TrOk.nil
theorem tyN178_ok : TrOk TyQ tyN178 128 178 := TrOk.node ⟨Tryz.type178, by kernel_rfl⟩ tyN306_ok tyN434_ok
theorem tyN370_ok : TrOk TyQ tyN370 256 370 := TrOk.node ⟨Tryz.type370, by kernel_rfl⟩ TrOk.nil TrOk.nil
theorem tyN242_ok : TrOk TyQ tyN242 128 242 := TrOk.node ⟨Tryz.type242, by kernel_rfl⟩ tyN370_ok TrOk.nil
theorem tyN114_ok : TrOk TyQ tyN114 64 114 := TrOk.node ⟨Tryz.type114, by kernel_rfl⟩ tyN178_ok tyN242_ok
theorem tyN50_ok : TrOk TyQ tyN50 32 50 := TrOk.node ⟨Tryz.type50, by kernel_rfl⟩ tyN82_ok tyN114_ok
theorem tyN18_ok : TrOk TyQ tyN18 16 18 := TrOk.node ⟨Tryz.type18, by kernel_rfl⟩ tyN34_ok tyN50_ok
theorem tyN266_ok : TrOk TyQ tyN266 256 266 := TrOk.node ⟨Tryz.type266, by kernel_rfl⟩ TrOk.nil TrOk.nil
theorem tyN394_ok : TrOk TyQ tyN394 256 394 := TrOk.node ⟨Tryz.type394, by kernel_rfl⟩ TrOk.nil TrOk.nil
theorem tyN138_ok : TrOk TyQ tyN138 128 138 := TrOk.node ⟨Tryz.type138, by kernel_rfl⟩ tyN266_ok tyN394_ok
theorem tyN330_ok : TrOk TyQ tyN330 256 330 := TrOk.node ⟨Tryz.type330, by kernel_rfl⟩ TrOk.nil TrOk.nil
theorem tyN458_ok : TrOk TyQ tyN458 256 458 := TrOk.node ⟨Tryz.type458, by kernel_rfl⟩ TrOk.nil TrOk.nil
theorem tyN202_ok : TrOk TyQ tyN202 128 202 := TrOk.node ⟨Tryz.type202, by kernel_rfl⟩ tyN330_ok tyN458_ok
theorem tyN74_ok : TrOk TyQ tyN74 64 74 := TrOk.node ⟨Tryz.type74, by kernel_rfl⟩ tyN138_ok tyN202_ok
theorem tyN298_ok : TrOk TyQ tyN298 256 298 := TrOk.node ⟨Tryz.type298, by kernel_rfl⟩ TrOk.nil TrOk.nil
theorem tyN426_ok : TrOk TyQ tyN426 256 426 := TrOk.node ⟨Tryz.type426, by kernel_rfl⟩ TrOk.nil TrOk.nil
theorem tyN170_ok : TrOk TyQ tyN170 128 170 := TrOk.node ⟨Tryz.type170, by kernel_rfl⟩ tyN298_ok tyN426_ok
theorem tyN362_ok : TrOk TyQ tyN362 256 362 := TrOk.node ⟨Tryz.type362, by kernel_rfl⟩ TrOk.nil TrOk.nil
theorem tyN234_ok : TrOk TyQ tyN234 128 234 := TrOk.node ⟨Tryz.type234, by kernel_rfl⟩ tyN362_ok TrOk.nil
theorem tyN106_ok : TrOk TyQ tyN106 64 106 := TrOk.node ⟨Tryz.type106, by kernel_rfl⟩ tyN170_ok tyN234_ok
theorem tyN42_ok : TrOk TyQ tyN42 32 42 := TrOk.node ⟨Tryz.type42, by kernel_rfl⟩ tyN74_ok tyN106_ok
theorem tyN282_ok : TrOk TyQ tyN282 256 282 := TrOk.node ⟨Tryz.type282, by kernel_rfl⟩ TrOk.nil TrOk.nil
theorem tyN410_ok : TrOk TyQ tyN410 256 410 := TrOk.node ⟨Tryz.type410, by kernel_rfl⟩ TrOk.nil TrOk.nil
theorem tyN154_ok : TrOk TyQ tyN154 128 154 := TrOk.node ⟨Tryz.type154, by kernel_rfl⟩ tyN282_ok tyN410_ok
theorem tyN346_ok : TrOk TyQ tyN346 256 346 := TrOk.node ⟨Tryz.type346, by kernel_rfl⟩ TrOk.nil TrOk.nil
theorem tyN474_ok : TrOk TyQ tyN474 256 474 := TrOk.node ⟨Tryz.type474, by kernel_rfl⟩ TrOk.nil TrOk.nil
theorem tyN218_ok : TrOk TyQ tyN218 128 218 := TrOk.node ⟨Tryz.type218, by kernel_rfl⟩ tyN346_ok tyN474_ok
theorem tyN90_ok : TrOk TyQ tyN90 64 90 := TrOk.node ⟨Tryz.type90, by kernel_rfl⟩ tyN154_ok tyN218_ok
theorem tyN314_ok : TrOk TyQ tyN314 256 314 := TrOk.node ⟨Tryz.type314, by kernel_rfl⟩ TrOk.nil TrOk.nil
theorem tyN442_ok : TrOk TyQ tyN442 256 442 := TrOk.node ⟨Tryz.type442, by kernel_rfl⟩ TrOk.nil TrOk.nil
theorem tyN186_ok : TrOk TyQ tyN186 128 186 := TrOk.node ⟨Tryz.type186, by kernel_rfl⟩ tyN314_ok tyN442_ok
theorem tyN378_ok : TrOk TyQ tyN378 256 378 := TrOk.node ⟨Tryz.type378, by kernel_rfl⟩ TrOk.nil TrOk.nil
theorem tyN250_ok : TrOk TyQ tyN250 128 250 := TrOk.node ⟨Tryz.type250, by kernel_rfl⟩ tyN378_ok TrOk.nil
theorem tyN122_ok : TrOk TyQ tyN122 64 122 := TrOk.node ⟨Tryz.type122, by kernel_rfl⟩ tyN186_ok tyN250_ok
theorem tyN58_ok : TrOk TyQ tyN58 32 58 := TrOk.node ⟨Tryz.type58, by kernel_rfl⟩ tyN90_ok tyN122_ok
theorem tyN26_ok : TrOk TyQ tyN26 16 26 := TrOk.node ⟨Tryz.type26, by kernel_rfl⟩ tyN42_ok tyN58_ok
theorem tyN10_ok : TrOk TyQ tyN10 8 10 := TrOk.node ⟨Tryz.type10, by kernel_rfl⟩ tyN18_ok tyN26_ok
theorem tyN262_ok : TrOk TyQ tyN262 256 262 := TrOk.node ⟨Tryz.type262, by kernel_rfl⟩ TrOk.nil TrOk.nil
theorem tyN390_ok : TrOk TyQ tyN390 256 390 := TrOk.node ⟨Tryz.type390, by kernel_rfl⟩ TrOk.nil TrOk.nil
theorem tyN134_ok : TrOk TyQ tyN134 128 134 := TrOk.node ⟨Tryz.type134, by kernel_rfl⟩ tyN262_ok tyN390_ok
theorem tyN326_ok : TrOk TyQ tyN326 256 326 := TrOk.node ⟨Tryz.type326, by kernel_rfl⟩ TrOk.nil TrOk.nil
theorem tyN454_ok : TrOk TyQ tyN454 256 454 := TrOk.node ⟨Tryz.type454, by kernel_rfl⟩ TrOk.nil TrOk.nil
theorem tyN198_ok : TrOk TyQ tyN198 128 198 := TrOk.node ⟨Tryz.type198, by kernel_rfl⟩ tyN326_ok tyN454_ok
theorem tyN70_ok : TrOk TyQ tyN70 64 70 := TrOk.node ⟨Tryz.type70, by kernel_rfl⟩ tyN134_ok tyN198_ok
theorem tyN294_ok : TrOk TyQ tyN294 256 294 := TrOk.node ⟨Tryz.type294, by kernel_rfl⟩ TrOk.nil TrOk.nil
theorem tyN422_ok : TrOk TyQ tyN422 256 422 := TrOk.node ⟨Tryz.type422, by kernel_rfl⟩ TrOk.nil TrOk.nil
theorem tyN166_ok : TrOk TyQ tyN166 128 166 := TrOk.node ⟨Tryz.type166, by kernel_rfl⟩ tyN294_ok tyN422_ok
theorem tyN358_ok : TrOk TyQ tyN358 256 358 := TrOk.node ⟨Tryz.type358, by kernel_rfl⟩ TrOk.nil TrOk.nil
theorem tyN230_ok : TrOk TyQ tyN230 128 230 := TrOk.node ⟨Tryz.type230, by kernel_rfl⟩ tyN358_ok TrOk.nil
theorem tyN102_ok : TrOk TyQ tyN102 64 102 := TrOk.node ⟨Tryz.type102, by kernel_rfl⟩ tyN166_ok tyN230_ok
theorem tyN38_ok : TrOk TyQ tyN38 32 38 := TrOk.node ⟨Tryz.type38, by kernel_rfl⟩ tyN70_ok tyN102_ok
theorem tyN278_ok : TrOk TyQ tyN278 256 278 := TrOk.node ⟨Tryz.type278, by kernel_rfl⟩ TrOk.nil TrOk.nil
theorem tyN406_ok : TrOk TyQ tyN406 256 406 := TrOk.node ⟨Tryz.type406, by kernel_rfl⟩ TrOk.nil TrOk.nil
theorem tyN150_ok : TrOk TyQ tyN150 128 150 := TrOk.node ⟨Tryz.type150, by kernel_rfl⟩ tyN278_ok tyN406_ok
theorem tyN342_ok : TrOk TyQ tyN342 256 342 := TrOk.node ⟨Tryz.type342, by kernel_rfl⟩ TrOk.nil TrOk.nil
theorem tyN470_ok : TrOk TyQ tyN470 256 470 := TrOk.node ⟨Tryz.type470, by kernel_rfl⟩ TrOk.nil TrOk.nil
theorem tyN214_ok : TrOk TyQ tyN214 128 214 := TrOk.node ⟨Tryz.type214, by kernel_rfl⟩ tyN342_ok tyN470_ok
theorem tyN86_ok : TrOk TyQ tyN86 64 86 := TrOk.node ⟨Tryz.type86, by kernel_rfl⟩ tyN150_ok tyN214_ok
theorem tyN310_ok : TrOk TyQ tyN310 256 310 := TrOk.node ⟨Tryz.type310, by kernel_rfl⟩ TrOk.nil TrOk.nil
theorem tyN438_ok : TrOk TyQ tyN438 256 438 := TrOk.node ⟨Tryz.type438, by kernel_rfl⟩ TrOk.nil TrOk.nil
theorem tyN182_ok : TrOk TyQ tyN182 128 182 := TrOk.node ⟨Tryz.type182, by kernel_rfl⟩ tyN310_ok tyN438_ok
theorem tyN374_ok : TrOk TyQ tyN374 256 374 := TrOk.node ⟨Tryz.type374, by kernel_rfl⟩ TrOk.nil TrOk.nil
theorem tyN246_ok : TrOk TyQ tyN246 128 246 := TrOk.node ⟨Tryz.type246, by kernel_rfl⟩ tyN374_ok TrOk.nil
theorem tyN118_ok : TrOk TyQ tyN118 64 118 := TrOk.node ⟨Tryz.type118, by kernel_rfl⟩ tyN182_ok tyN246_ok
theorem tyN54_ok : TrOk TyQ tyN54 32 54 := TrOk.node ⟨Tryz.type54, by kernel_rfl⟩ tyN86_ok tyN118_ok
theorem tyN22_ok : TrOk TyQ tyN22 16 22 := TrOk.node ⟨Tryz.type22, by kernel_rfl⟩ tyN38_ok tyN54_ok
theorem tyN270_ok : TrOk TyQ tyN270 256 270 := TrOk.node ⟨Tryz.type270, by kernel_rfl⟩ TrOk.nil TrOk.nil
theorem tyN398_ok : TrOk TyQ tyN398 256 398 := TrOk.node ⟨Tryz.type398, by kernel_rfl⟩ TrOk.nil TrOk.nil
theorem tyN142_ok : TrOk TyQ tyN142 128 142 := TrOk.node ⟨Tryz.type142, by kernel_rfl⟩ tyN270_ok tyN398_ok
theorem tyN334_ok : TrOk TyQ tyN334 256 334 := TrOk.node ⟨Tryz.type334, by kernel_rfl⟩ TrOk.nil TrOk.nil
theorem tyN462_ok : TrOk TyQ tyN462 256 462 := TrOk.node ⟨Tryz.type462, by kernel_rfl⟩ TrOk.nil TrOk.nil
theorem tyN206_ok : TrOk TyQ tyN206 128 206 := TrOk.node ⟨Tryz.type206, by kernel_rfl⟩ tyN334_ok tyN462_ok
theorem tyN78_ok : TrOk TyQ tyN78 64 78 := TrOk.node ⟨Tryz.type78, by kernel_rfl⟩ tyN142_ok tyN206_ok
theorem tyN302_ok : TrOk TyQ tyN302 256 302 := TrOk.node ⟨Tryz.type302, by kernel_rfl⟩ TrOk.nil TrOk.nil
theorem tyN430_ok : TrOk TyQ tyN430 256 430 := TrOk.node ⟨Tryz.type430, by kernel_rfl⟩ TrOk.nil TrOk.nil
theorem tyN174_ok : TrOk TyQ tyN174 128 174 := TrOk.node ⟨Tryz.type174, by kernel_rfl⟩ tyN302_ok tyN430_ok
theorem tyN366_ok : TrOk TyQ tyN366 256 366 := TrOk.node ⟨Tryz.type366, by kernel_rfl⟩ TrOk.nil TrOk.nil
theorem tyN238_ok : TrOk TyQ tyN238 128 238 := TrOk.node ⟨Tryz.type238, by kernel_rfl⟩ tyN366_ok TrOk.nil
theorem tyN110_ok : TrOk TyQ tyN110 64 110 := TrOk.node ⟨Tryz.type110, by kernel_rfl⟩ tyN174_ok tyN238_ok
theorem tyN46_ok : TrOk TyQ tyN46 32 46 := TrOk.node ⟨Tryz.type46, by kernel_rfl⟩ tyN78_ok tyN110_ok
theorem tyN286_ok : TrOk TyQ tyN286 256 286 := TrOk.node ⟨Tryz.type286, by kernel_rfl⟩ TrOk.nil TrOk.nil
theorem tyN414_ok : TrOk TyQ tyN414 256 414 := TrOk.node ⟨Tryz.type414, by kernel_rfl⟩ TrOk.nil TrOk.nil
theorem tyN158_ok : TrOk TyQ tyN158 128 158 := TrOk.node ⟨Tryz.type158, by kernel_rfl⟩ tyN286_ok tyN414_ok
theorem tyN350_ok : TrOk TyQ tyN350 256 350 := TrOk.node ⟨Tryz.type350, by kernel_rfl⟩ TrOk.nil TrOk.nil
theorem tyN478_ok : TrOk TyQ tyN478 256 478 := TrOk.node ⟨Tryz.type478, by kernel_rfl⟩ TrOk.nil TrOk.nil
theorem tyN222_ok : TrOk TyQ tyN222 128 222 := TrOk.node ⟨Tryz.type222, by kernel_rfl⟩ tyN350_ok tyN478_ok
theorem tyN94_ok : TrOk TyQ tyN94 64 94 := TrOk.node ⟨Tryz.type94, by kernel_rfl⟩ tyN158_ok tyN222_ok
theorem tyN318_ok : TrOk TyQ tyN318 256 318 := TrOk.node ⟨Tryz.type318, by kernel_rfl⟩ TrOk.nil TrOk.nil
theorem tyN446_ok : TrOk TyQ tyN446 256 446 := TrOk.node ⟨Tryz.type446, by kernel_rfl⟩ TrOk.nil TrOk.nil
theorem tyN190_ok : TrOk TyQ tyN190 128 190 := TrOk.node ⟨Tryz.type190, by kernel_rfl⟩ tyN318_ok tyN446_ok
theorem tyN382_ok : TrOk TyQ tyN382 256 382 := TrOk.node ⟨Tryz.type382, by kernel_rfl⟩ TrOk.nil TrOk.nil
theorem tyN254_ok : TrOk TyQ tyN254 128 254 := TrOk.node ⟨Tryz.type254, by kernel_rfl⟩ tyN382_ok TrOk.nil
theorem tyN126_ok : TrOk TyQ tyN126 64 126 := TrOk.node ⟨Tryz.type126, by kernel_rfl⟩ tyN190_ok tyN254_ok
theorem tyN62_ok : TrOk TyQ tyN62 32 62 := TrOk.node ⟨Tryz.type62, by kernel_rfl⟩ tyN94_ok tyN126_ok
theorem tyN30_ok : TrOk TyQ tyN30 16 30 := TrOk.node ⟨Tryz.type30, by kernel_rfl⟩ tyN46_ok tyN62_ok
theorem tyN14_ok : TrOk TyQ tyN14 8 14 := TrOk.node ⟨Tryz.type14, by kernel_rfl⟩ tyN22_ok tyN30_ok
theorem tyN6_ok : TrOk TyQ tyN6 4 6 := TrOk.node ⟨Tryz.type6, by kernel_rfl⟩ tyN10_ok tyN14_ok
theorem tyN2_ok : TrOk TyQ tyN2 2 2 := TrOk.node ⟨Tryz.type2, by kernel_rfl⟩ tyN4_ok tyN6_ok
theorem tyN0_ok : TrOk TyQ tyN0 1 0 := TrOk.node ⟨Tryz.type0, by kernel_rfl⟩ tyN1_ok tyN2_ok
theorem fnN255_ok : TrOk FnQ fnN255 256 255 := TrOk.node ⟨Tryz.func255, by kernel_rfl, by kernel_rfl⟩ TrOk.nil TrOk.nil
theorem fnN383_ok : TrOk FnQ fnN383 256 383 := TrOk.node ⟨Tryz.func383, by kernel_rfl, by kernel_rfl⟩ TrOk.nil TrOk.nil
theorem fnN127_ok : TrOk FnQ fnN127 128 127 := TrOk.node ⟨Tryz.func127, by kernel_rfl, by kernel_rfl⟩ fnN255_ok fnN383_ok
theorem fnN319_ok : TrOk FnQ fnN319 256 319 := TrOk.node ⟨Tryz.func319, by kernel_rfl, by kernel_rfl⟩ TrOk.nil TrOk.nil
theorem fnN191_ok : TrOk FnQ fnN191 128 191 := TrOk.node ⟨Tryz.func191, by kernel_rfl, by kernel_rfl⟩ fnN319_ok TrOk.nil
theorem fnN63_ok : TrOk FnQ fnN63 64 63 := TrOk.node ⟨Tryz.func63, by kernel_rfl, by kernel_rfl⟩ fnN127_ok fnN191_ok
theorem fnN287_ok : TrOk FnQ fnN287 256 287 := TrOk.node ⟨Tryz.func287, by kernel_rfl, by kernel_rfl⟩ TrOk.nil TrOk.nil
theorem fnN159_ok : TrOk FnQ fnN159 128 159 := TrOk.node ⟨Tryz.func159, by kernel_rfl, by kernel_rfl⟩ fnN287_ok TrOk.nil
theorem fnN351_ok : TrOk FnQ fnN351 256 351 := TrOk.node ⟨Tryz.func351, by kernel_rfl, by kernel_rfl⟩ TrOk.nil TrOk.nil
theorem fnN223_ok : TrOk FnQ fnN223 128 223 := TrOk.node ⟨Tryz.func223, by kernel_rfl, by kernel_rfl⟩ fnN351_ok TrOk.nil
theorem fnN95_ok : TrOk FnQ fnN95 64 95 := TrOk.node ⟨Tryz.func95, by kernel_rfl, by kernel_rfl⟩ fnN159_ok fnN223_ok
theorem fnN31_ok : TrOk FnQ fnN31 32 31 := TrOk.node ⟨Tryz.func31, by kernel_rfl, by kernel_rfl⟩ fnN63_ok fnN95_ok
theorem fnN271_ok : TrOk FnQ fnN271 256 271 := TrOk.node ⟨Tryz.func271, by kernel_rfl, by kernel_rfl⟩ TrOk.nil TrOk.nil
theorem fnN399_ok : TrOk FnQ fnN399 256 399 := TrOk.node ⟨Tryz.func399, by kernel_rfl, by kernel_rfl⟩ TrOk.nil TrOk.nil
theorem fnN143_ok : TrOk FnQ fnN143 128 143 := TrOk.node ⟨Tryz.func143, by kernel_rfl, by kernel_rfl⟩ fnN271_ok fnN399_ok
theorem fnN335_ok : TrOk FnQ fnN335 256 335 := TrOk.node ⟨Tryz.func335, by kernel_rfl, by kernel_rfl⟩ TrOk.nil TrOk.nil
theorem fnN207_ok : TrOk FnQ fnN207 128 207 := TrOk.node ⟨Tryz.func207, by kernel_rfl, by kernel_rfl⟩ fnN335_ok TrOk.nil
theorem fnN79_ok : TrOk FnQ fnN79 64 79 := TrOk.node ⟨Tryz.func79, by kernel_rfl, by kernel_rfl⟩ fnN143_ok fnN207_ok
theorem fnN303_ok : TrOk FnQ fnN303 256 303 := TrOk.node ⟨Tryz.func303, by kernel_rfl, by kernel_rfl⟩ TrOk.nil TrOk.nil
theorem fnN175_ok : TrOk FnQ fnN175 128 175 := TrOk.node ⟨Tryz.func175, by kernel_rfl, by kernel_rfl⟩ fnN303_ok TrOk.nil
theorem fnN367_ok : TrOk FnQ fnN367 256 367 := TrOk.node ⟨Tryz.func367, by kernel_rfl, by kernel_rfl⟩ TrOk.nil TrOk.nil
theorem fnN239_ok : TrOk FnQ fnN239 128 239 := TrOk.node ⟨Tryz.func239, by kernel_rfl, by kernel_rfl⟩ fnN367_ok TrOk.nil
theorem fnN111_ok : TrOk FnQ fnN111 64 111 := TrOk.node ⟨Tryz.func111, by kernel_rfl, by kernel_rfl⟩ fnN175_ok fnN239_ok
theorem fnN47_ok : TrOk FnQ fnN47 32 47 := TrOk.node ⟨Tryz.func47, by kernel_rfl, by kernel_rfl⟩ fnN79_ok fnN111_ok
theorem fnN15_ok : TrOk FnQ fnN15 16 15 := TrOk.node ⟨Tryz.func15, by kernel_rfl, by kernel_rfl⟩ fnN31_ok fnN47_ok
theorem fnN263_ok : TrOk FnQ fnN263 256 263 := TrOk.node ⟨Tryz.func263, by kernel_rfl, by kernel_rfl⟩ TrOk.nil TrOk.nil
theorem fnN391_ok : TrOk FnQ fnN391 256 391 := TrOk.node ⟨Tryz.func391, by kernel_rfl, by kernel_rfl⟩ TrOk.nil TrOk.nil
theorem fnN135_ok : TrOk FnQ fnN135 128 135 := TrOk.node ⟨Tryz.func135, by kernel_rfl, by kernel_rfl⟩ fnN263_ok fnN391_ok
theorem fnN327_ok : TrOk FnQ fnN327 256 327 := TrOk.node ⟨Tryz.func327, by kernel_rfl, by kernel_rfl⟩ TrOk.nil TrOk.nil
theorem fnN199_ok : TrOk FnQ fnN199 128 199 := TrOk.node ⟨Tryz.func199, by kernel_rfl, by kernel_rfl⟩ fnN327_ok TrOk.nil
theorem fnN71_ok : TrOk FnQ fnN71 64 71 := TrOk.node ⟨Tryz.func71, by kernel_rfl, by kernel_rfl⟩ fnN135_ok fnN199_ok
theorem fnN295_ok : TrOk FnQ fnN295 256 295 := TrOk.node ⟨Tryz.func295, by kernel_rfl, by kernel_rfl⟩ TrOk.nil TrOk.nil
theorem fnN167_ok : TrOk FnQ fnN167 128 167 := TrOk.node ⟨Tryz.func167, by kernel_rfl, by kernel_rfl⟩ fnN295_ok TrOk.nil
theorem fnN359_ok : TrOk FnQ fnN359 256 359 := TrOk.node ⟨Tryz.func359, by kernel_rfl, by kernel_rfl⟩ TrOk.nil TrOk.nil
theorem fnN231_ok : TrOk FnQ fnN231 128 231 := TrOk.node ⟨Tryz.func231, by kernel_rfl, by kernel_rfl⟩ fnN359_ok TrOk.nil
theorem fnN103_ok : TrOk FnQ fnN103 64 103 := TrOk.node ⟨Tryz.func103, by kernel_rfl, by kernel_rfl⟩ fnN167_ok fnN231_ok
theorem fnN39_ok : TrOk FnQ fnN39 32 39 := TrOk.node ⟨Tryz.func39, by kernel_rfl, by kernel_rfl⟩ fnN71_ok fnN103_ok
theorem fnN279_ok : TrOk FnQ fnN279 256 279 := TrOk.node ⟨Tryz.func279, by kernel_rfl, by kernel_rfl⟩ TrOk.nil TrOk.nil
theorem fnN407_ok : TrOk FnQ fnN407 256 407 := TrOk.node ⟨Tryz.func407, by kernel_rfl, by kernel_rfl⟩ TrOk.nil TrOk.nil
theorem fnN151_ok : TrOk FnQ fnN151 128 151 := TrOk.node ⟨Tryz.func151, by kernel_rfl, by kernel_rfl⟩ fnN279_ok fnN407_ok
theorem fnN343_ok : TrOk FnQ fnN343 256 343 := TrOk.node ⟨Tryz.func343, by kernel_rfl, by kernel_rfl⟩ TrOk.nil TrOk.nil
theorem fnN215_ok : TrOk FnQ fnN215 128 215 := TrOk.node ⟨Tryz.func215, by kernel_rfl, by kernel_rfl⟩ fnN343_ok TrOk.nil
theorem fnN87_ok : TrOk FnQ fnN87 64 87 := TrOk.node ⟨Tryz.func87, by kernel_rfl, by kernel_rfl⟩ fnN151_ok fnN215_ok
theorem fnN311_ok : TrOk FnQ fnN311 256 311 := TrOk.node ⟨Tryz.func311, by kernel_rfl, by kernel_rfl⟩ TrOk.nil TrOk.nil
theorem fnN183_ok : TrOk FnQ fnN183 128 183 := TrOk.node ⟨Tryz.func183, by kernel_rfl, by kernel_rfl⟩ fnN311_ok TrOk.nil
theorem fnN375_ok : TrOk FnQ fnN375 256 375 := TrOk.node ⟨Tryz.func375, by kernel_rfl, by kernel_rfl⟩ TrOk.nil TrOk.nil
theorem fnN247_ok : TrOk FnQ fnN247 128 247 := TrOk.node ⟨Tryz.func247, by kernel_rfl, by kernel_rfl⟩ fnN375_ok TrOk.nil
theorem fnN119_ok : TrOk FnQ fnN119 64 119 := TrOk.node ⟨Tryz.func119, by kernel_rfl, by kernel_rfl⟩ fnN183_ok fnN247_ok
theorem fnN55_ok : TrOk FnQ fnN55 32 55 := TrOk.node ⟨Tryz.func55, by kernel_rfl, by kernel_rfl⟩ fnN87_ok fnN119_ok
theorem fnN23_ok : TrOk FnQ fnN23 16 23 := TrOk.node ⟨Tryz.func23, by kernel_rfl, by kernel_rfl⟩ fnN39_ok fnN55_ok
theorem fnN7_ok : TrOk FnQ fnN7 8 7 := TrOk.node ⟨Tryz.func7, by kernel_rfl, by kernel_rfl⟩ fnN15_ok fnN23_ok
theorem fnN259_ok : TrOk FnQ fnN259 256 259 := TrOk.node ⟨Tryz.func259, by kernel_rfl, by kernel_rfl⟩ TrOk.nil TrOk.nil
theorem fnN387_ok : TrOk FnQ fnN387 256 387 := TrOk.node ⟨Tryz.func387, by kernel_rfl, by kernel_rfl⟩ TrOk.nil TrOk.nil
theorem fnN131_ok : TrOk FnQ fnN131 128 131 := TrOk.node ⟨Tryz.func131, by kernel_rfl, by kernel_rfl⟩ fnN259_ok fnN387_ok
theorem fnN323_ok : TrOk FnQ fnN323 256 323 := TrOk.node ⟨Tryz.func323, by kernel_rfl, by kernel_rfl⟩ TrOk.nil TrOk.nil
theorem fnN195_ok : TrOk FnQ fnN195 128 195 := TrOk.node ⟨Tryz.func195, by kernel_rfl, by kernel_rfl⟩ fnN323_ok TrOk.nil
theorem fnN67_ok : TrOk FnQ fnN67 64 67 := TrOk.node ⟨Tryz.func67, by kernel_rfl, by kernel_rfl⟩ fnN131_ok fnN195_ok
theorem fnN291_ok : TrOk FnQ fnN291 256 291 := TrOk.node ⟨Tryz.func291, by kernel_rfl, by kernel_rfl⟩ TrOk.nil TrOk.nil
theorem fnN163_ok : TrOk FnQ fnN163 128 163 := TrOk.node ⟨Tryz.func163, by kernel_rfl, by kernel_rfl⟩ fnN291_ok TrOk.nil
theorem fnN355_ok : TrOk FnQ fnN355 256 355 := TrOk.node ⟨Tryz.func355, by kernel_rfl, by kernel_rfl⟩ TrOk.nil TrOk.nil
theorem fnN227_ok : TrOk FnQ fnN227 128 227 := TrOk.node ⟨Tryz.func227, by kernel_rfl, by kernel_rfl⟩ fnN355_ok TrOk.nil
theorem fnN99_ok : TrOk FnQ fnN99 64 99 := TrOk.node ⟨Tryz.func99, by kernel_rfl, by kernel_rfl⟩ fnN163_ok fnN227_ok
theorem fnN35_ok : TrOk FnQ fnN35 32 35 := TrOk.node ⟨Tryz.func35, by kernel_rfl, by kernel_rfl⟩ fnN67_ok fnN99_ok
theorem fnN275_ok : TrOk FnQ fnN275 256 275 := TrOk.node ⟨Tryz.func275, by kernel_rfl, by kernel_rfl⟩ TrOk.nil TrOk.nil
theorem fnN403_ok : TrOk FnQ fnN403 256 403 := TrOk.node ⟨Tryz.func403, by kernel_rfl, by kernel_rfl⟩ TrOk.nil TrOk.nil
theorem fnN147_ok : TrOk FnQ fnN147 128 147 := TrOk.node ⟨Tryz.func147, by kernel_rfl, by kernel_rfl⟩ fnN275_ok fnN403_ok
theorem fnN339_ok : TrOk FnQ fnN339 256 339 := TrOk.node ⟨Tryz.func339, by kernel_rfl, by kernel_rfl⟩ TrOk.nil TrOk.nil
theorem fnN211_ok : TrOk FnQ fnN211 128 211 := TrOk.node ⟨Tryz.func211, by kernel_rfl, by kernel_rfl⟩ fnN339_ok TrOk.nil
theorem fnN83_ok : TrOk FnQ fnN83 64 83 := TrOk.node ⟨Tryz.func83, by kernel_rfl, by kernel_rfl⟩ fnN147_ok fnN211_ok
theorem fnN307_ok : TrOk FnQ fnN307 256 307 := TrOk.node ⟨Tryz.func307, by kernel_rfl, by kernel_rfl⟩ TrOk.nil TrOk.nil
theorem fnN179_ok : TrOk FnQ fnN179 128 179 := TrOk.node ⟨Tryz.func179, by kernel_rfl, by kernel_rfl⟩ fnN307_ok TrOk.nil
theorem fnN371_ok : TrOk FnQ fnN371 256 371 := TrOk.node ⟨Tryz.func371, by kernel_rfl, by kernel_rfl⟩ TrOk.nil TrOk.nil
theorem fnN243_ok : TrOk FnQ fnN243 128 243 := TrOk.node ⟨Tryz.func243, by kernel_rfl, by kernel_rfl⟩ fnN371_ok TrOk.nil
theorem fnN115_ok : TrOk FnQ fnN115 64 115 := TrOk.node ⟨Tryz.func115, by kernel_rfl, by kernel_rfl⟩ fnN179_ok fnN243_ok
theorem fnN51_ok : TrOk FnQ fnN51 32 51 := TrOk.node ⟨Tryz.func51, by kernel_rfl, by kernel_rfl⟩ fnN83_ok fnN115_ok
theorem fnN19_ok : TrOk FnQ fnN19 16 19 := TrOk.node ⟨Tryz.func19, by kernel_rfl, by kernel_rfl⟩ fnN35_ok fnN51_ok
theorem fnN267_ok : TrOk FnQ fnN267 256 267 := TrOk.node ⟨Tryz.func267, by kernel_rfl, by kernel_rfl⟩ TrOk.nil TrOk.nil
theorem fnN395_ok : TrOk FnQ fnN395 256 395 := TrOk.node ⟨Tryz.func395, by kernel_rfl, by kernel_rfl⟩ TrOk.nil TrOk.nil
theorem fnN139_ok : TrOk FnQ fnN139 128 139 := TrOk.node ⟨Tryz.func139, by kernel_rfl, by kernel_rfl⟩ fnN267_ok fnN395_ok
theorem fnN331_ok : TrOk FnQ fnN331 256 331 := TrOk.node ⟨Tryz.func331, by kernel_rfl, by kernel_rfl⟩ TrOk.nil TrOk.nil
theorem fnN203_ok : TrOk FnQ fnN203 128 203 := TrOk.node ⟨Tryz.func203, by kernel_rfl, by kernel_rfl⟩ fnN331_ok TrOk.nil
theorem fnN75_ok : TrOk FnQ fnN75 64 75 := TrOk.node ⟨Tryz.func75, by kernel_rfl, by kernel_rfl⟩ fnN139_ok fnN203_ok
theorem fnN299_ok : TrOk FnQ fnN299 256 299 := TrOk.node ⟨Tryz.func299, by kernel_rfl, by kernel_rfl⟩ TrOk.nil TrOk.nil
theorem fnN171_ok : TrOk FnQ fnN171 128 171 := TrOk.node ⟨Tryz.func171, by kernel_rfl, by kernel_rfl⟩ fnN299_ok TrOk.nil
theorem fnN363_ok : TrOk FnQ fnN363 256 363 := TrOk.node ⟨Tryz.func363, by kernel_rfl, by kernel_rfl⟩ TrOk.nil TrOk.nil
theorem fnN235_ok : TrOk FnQ fnN235 128 235 := TrOk.node ⟨Tryz.func235, by kernel_rfl, by kernel_rfl⟩ fnN363_ok TrOk.nil
theorem fnN107_ok : TrOk FnQ fnN107 64 107 := TrOk.node ⟨Tryz.func107, by kernel_rfl, by kernel_rfl⟩ fnN171_ok fnN235_ok
theorem fnN43_ok : TrOk FnQ fnN43 32 43 := TrOk.node ⟨Tryz.func43, by kernel_rfl, by kernel_rfl⟩ fnN75_ok fnN107_ok
theorem fnN283_ok : TrOk FnQ fnN283 256 283 := TrOk.node ⟨Tryz.func283, by kernel_rfl, by kernel_rfl⟩ TrOk.nil TrOk.nil
theorem fnN411_ok : TrOk FnQ fnN411 256 411 := TrOk.node ⟨Tryz.func411, by kernel_rfl, by kernel_rfl⟩ TrOk.nil TrOk.nil
theorem fnN155_ok : TrOk FnQ fnN155 128 155 := TrOk.node ⟨Tryz.func155, by kernel_rfl, by kernel_rfl⟩ fnN283_ok fnN411_ok
theorem fnN347_ok : TrOk FnQ fnN347 256 347 := TrOk.node ⟨Tryz.func347, by kernel_rfl, by kernel_rfl⟩ TrOk.nil TrOk.nil
theorem fnN219_ok : TrOk FnQ fnN219 128 219 := TrOk.node ⟨Tryz.func219, by kernel_rfl, by kernel_rfl⟩ fnN347_ok TrOk.nil
theorem fnN91_ok : TrOk FnQ fnN91 64 91 := TrOk.node ⟨Tryz.func91, by kernel_rfl, by kernel_rfl⟩ fnN155_ok fnN219_ok
theorem fnN315_ok : TrOk FnQ fnN315 256 315 := TrOk.node ⟨Tryz.func315, by kernel_rfl, by kernel_rfl⟩ TrOk.nil TrOk.nil
theorem fnN187_ok : TrOk FnQ fnN187 128 187 := TrOk.node ⟨Tryz.func187, by kernel_rfl, by kernel_rfl⟩ fnN315_ok TrOk.nil
theorem fnN379_ok : TrOk FnQ fnN379 256 379 := TrOk.node ⟨Tryz.func379, by kernel_rfl, by kernel_rfl⟩ TrOk.nil TrOk.nil
theorem fnN251_ok : TrOk FnQ fnN251 128 251 := TrOk.node ⟨Tryz.func251, by kernel_rfl, by kernel_rfl⟩ fnN379_ok TrOk.nil
theorem fnN123_ok : TrOk FnQ fnN123 64 123 := TrOk.node ⟨Tryz.func123, by kernel_rfl, by kernel_rfl⟩ fnN187_ok fnN251_ok
theorem fnN59_ok : TrOk FnQ fnN59 32 59 := TrOk.node ⟨Tryz.func59, by kernel_rfl, by kernel_rfl⟩ fnN91_ok fnN123_ok
theorem fnN27_ok : TrOk FnQ fnN27 16 27 := TrOk.node ⟨Tryz.func27, by kernel_rfl, by kernel_rfl⟩ fnN43_ok fnN59_ok
theorem fnN11_ok : TrOk FnQ fnN11 8 11 := TrOk.node ⟨Tryz.func11, by kernel_rfl, by kernel_rfl⟩ fnN19_ok fnN27_ok
theorem fnN3_ok : TrOk FnQ fnN3 4 3 := TrOk.node ⟨Tryz.func3, by kernel_rfl, by kernel_rfl⟩ fnN7_ok fnN11_ok
theorem fnN257_ok : TrOk FnQ fnN257 256 257 := TrOk.node ⟨Tryz.func257, by kernel_rfl, by kernel_rfl⟩ TrOk.nil TrOk.nil
theorem fnN385_ok : TrOk FnQ fnN385 256 385 := TrOk.node ⟨Tryz.func385, by kernel_rfl, by kernel_rfl⟩ TrOk.nil TrOk.nil
theorem fnN129_ok : TrOk FnQ fnN129 128 129 := TrOk.node ⟨Tryz.func129, by kernel_rfl, by kernel_rfl⟩ fnN257_ok fnN385_ok
theorem fnN321_ok : TrOk FnQ fnN321 256 321 := TrOk.node ⟨Tryz.func321, by kernel_rfl, by kernel_rfl⟩ TrOk.nil TrOk.nil
theorem fnN193_ok : TrOk FnQ fnN193 128 193 := TrOk.node ⟨Tryz.func193, by kernel_rfl, by kernel_rfl⟩ fnN321_ok TrOk.nil
theorem fnN65_ok : TrOk FnQ fnN65 64 65 := TrOk.node ⟨Tryz.func65, by kernel_rfl, by kernel_rfl⟩ fnN129_ok fnN193_ok
theorem fnN289_ok : TrOk FnQ fnN289 256 289 := TrOk.node ⟨Tryz.func289, by kernel_rfl, by kernel_rfl⟩ TrOk.nil TrOk.nil
theorem fnN161_ok : TrOk FnQ fnN161 128 161 := TrOk.node ⟨Tryz.func161, by kernel_rfl, by kernel_rfl⟩ fnN289_ok TrOk.nil
theorem fnN353_ok : TrOk FnQ fnN353 256 353 := TrOk.node ⟨Tryz.func353, by kernel_rfl, by kernel_rfl⟩ TrOk.nil TrOk.nil
theorem fnN225_ok : TrOk FnQ fnN225 128 225 := TrOk.node ⟨Tryz.func225, by kernel_rfl, by kernel_rfl⟩ fnN353_ok TrOk.nil
theorem fnN97_ok : TrOk FnQ fnN97 64 97 := TrOk.node ⟨Tryz.func97, by kernel_rfl, by kernel_rfl⟩ fnN161_ok fnN225_ok
theorem fnN33_ok : TrOk FnQ fnN33 32 33 := TrOk.node ⟨Tryz.func33, by kernel_rfl, by kernel_rfl⟩ fnN65_ok fnN97_ok
theorem fnN273_ok : TrOk FnQ fnN273 256 273 := TrOk.node ⟨Tryz.func273, by kernel_rfl, by kernel_rfl⟩ TrOk.nil TrOk.nil
theorem fnN401_ok : TrOk FnQ fnN401 256 401 := TrOk.node ⟨Tryz.func401, by kernel_rfl, by kernel_rfl⟩ TrOk.nil TrOk.nil
theorem fnN145_ok : TrOk FnQ fnN145 128 145 := TrOk.node ⟨Tryz.func145, by kernel_rfl, by kernel_rfl⟩ fnN273_ok fnN401_ok
theorem fnN337_ok : TrOk FnQ fnN337 256 337 := TrOk.node ⟨Tryz.func337, by kernel_rfl, by kernel_rfl⟩ TrOk.nil TrOk.nil
theorem fnN209_ok : TrOk FnQ fnN209 128 209 := TrOk.node ⟨Tryz.func209, by kernel_rfl, by kernel_rfl⟩ fnN337_ok TrOk.nil
theorem fnN81_ok : TrOk FnQ fnN81 64 81 := TrOk.node ⟨Tryz.func81, by kernel_rfl, by kernel_rfl⟩ fnN145_ok fnN209_ok
theorem fnN305_ok : TrOk FnQ fnN305 256 305 := TrOk.node ⟨Tryz.func305, by kernel_rfl, by kernel_rfl⟩ TrOk.nil TrOk.nil
theorem fnN177_ok : TrOk FnQ fnN177 128 177 := TrOk.node ⟨Tryz.func177, by kernel_rfl, by kernel_rfl⟩ fnN305_ok TrOk.nil
theorem fnN369_ok : TrOk FnQ fnN369 256 369 := TrOk.node ⟨Tryz.func369, by kernel_rfl, by kernel_rfl⟩ TrOk.nil TrOk.nil
theorem fnN241_ok : TrOk FnQ fnN241 128 241 := TrOk.node ⟨Tryz.func241, by kernel_rfl, by kernel_rfl⟩ fnN369_ok TrOk.nil
theorem fnN113_ok : TrOk FnQ fnN113 64 113 := TrOk.node ⟨Tryz.func113, by kernel_rfl, by kernel_rfl⟩ fnN177_ok fnN241_ok
theorem fnN49_ok : TrOk FnQ fnN49 32 49 := TrOk.node ⟨Tryz.func49, by kernel_rfl, by kernel_rfl⟩ fnN81_ok fnN113_ok
theorem fnN17_ok : TrOk FnQ fnN17 16 17 := TrOk.node ⟨Tryz.func17, by kernel_rfl, by kernel_rfl⟩ fnN33_ok fnN49_ok
theorem fnN265_ok : TrOk FnQ fnN265 256 265 := TrOk.node ⟨Tryz.func265, by kernel_rfl, by kernel_rfl⟩ TrOk.nil TrOk.nil
theorem fnN393_ok : TrOk FnQ fnN393 256 393 := TrOk.node ⟨Tryz.func393, by kernel_rfl, by kernel_rfl⟩ TrOk.nil TrOk.nil
theorem fnN137_ok : TrOk FnQ fnN137 128 137 := TrOk.node ⟨Tryz.func137, by kernel_rfl, by kernel_rfl⟩ fnN265_ok fnN393_ok
theorem fnN329_ok : TrOk FnQ fnN329 256 329 := TrOk.node ⟨Tryz.func329, by kernel_rfl, by kernel_rfl⟩ TrOk.nil TrOk.nil
theorem fnN201_ok : TrOk FnQ fnN201 128 201 := TrOk.node ⟨Tryz.func201, by kernel_rfl, by kernel_rfl⟩ fnN329_ok TrOk.nil
theorem fnN73_ok : TrOk FnQ fnN73 64 73 := TrOk.node ⟨Tryz.func73, by kernel_rfl, by kernel_rfl⟩ fnN137_ok fnN201_ok
theorem fnN297_ok : TrOk FnQ fnN297 256 297 := TrOk.node ⟨Tryz.func297, by kernel_rfl, by kernel_rfl⟩ TrOk.nil TrOk.nil
theorem fnN169_ok : TrOk FnQ fnN169 128 169 := TrOk.node ⟨Tryz.func169, by kernel_rfl, by kernel_rfl⟩ fnN297_ok TrOk.nil
theorem fnN361_ok : TrOk FnQ fnN361 256 361 := TrOk.node ⟨Tryz.func361, by kernel_rfl, by kernel_rfl⟩ TrOk.nil TrOk.nil
theorem fnN233_ok : TrOk FnQ fnN233 128 233 := TrOk.node ⟨Tryz.func233, by kernel_rfl, by kernel_rfl⟩ fnN361_ok TrOk.nil
theorem fnN105_ok : TrOk FnQ fnN105 64 105 := TrOk.node ⟨Tryz.func105, by kernel_rfl, by kernel_rfl⟩ fnN169_ok fnN233_ok
theorem fnN41_ok : TrOk FnQ fnN41 32 41 := TrOk.node ⟨Tryz.func41, by kernel_rfl, by kernel_rfl⟩ fnN73_ok fnN105_ok
theorem fnN281_ok : TrOk FnQ fnN281 256 281 := TrOk.node ⟨Tryz.func281, by kernel_rfl, by kernel_rfl⟩ TrOk.nil TrOk.nil
theorem fnN409_ok : TrOk FnQ fnN409 256 409 := TrOk.node ⟨Tryz.func409, by kernel_rfl, by kernel_rfl⟩ TrOk.nil TrOk.nil
theorem fnN153_ok : TrOk FnQ fnN153 128 153 := TrOk.node ⟨Tryz.func153, by kernel_rfl, by kernel_rfl⟩ fnN281_ok fnN409_ok
theorem fnN345_ok : TrOk FnQ fnN345 256 345 := TrOk.node ⟨Tryz.func345, by kernel_rfl, by kernel_rfl⟩ TrOk.nil TrOk.nil
theorem fnN217_ok : TrOk FnQ fnN217 128 217 := TrOk.node ⟨Tryz.func217, by kernel_rfl, by kernel_rfl⟩ fnN345_ok TrOk.nil
theorem fnN89_ok : TrOk FnQ fnN89 64 89 := TrOk.node ⟨Tryz.func89, by kernel_rfl, by kernel_rfl⟩ fnN153_ok fnN217_ok
theorem fnN313_ok : TrOk FnQ fnN313 256 313 := TrOk.node ⟨Tryz.func313, by kernel_rfl, by kernel_rfl⟩ TrOk.nil TrOk.nil
theorem fnN185_ok : TrOk FnQ fnN185 128 185 := TrOk.node ⟨Tryz.func185, by kernel_rfl, by kernel_rfl⟩ fnN313_ok TrOk.nil
theorem fnN377_ok : TrOk FnQ fnN377 256 377 := TrOk.node ⟨Tryz.func377, by kernel_rfl, by kernel_rfl⟩ TrOk.nil TrOk.nil
theorem fnN249_ok : TrOk FnQ fnN249 128 249 := TrOk.node ⟨Tryz.func249, by kernel_rfl, by kernel_rfl⟩ fnN377_ok TrOk.nil
theorem fnN121_ok : TrOk FnQ fnN121 64 121 := TrOk.node ⟨Tryz.func121, by kernel_rfl, by kernel_rfl⟩ fnN185_ok fnN249_ok
theorem fnN57_ok : TrOk FnQ fnN57 32 57 := TrOk.node ⟨Tryz.func57, by kernel_rfl, by kernel_rfl⟩ fnN89_ok fnN121_ok
theorem fnN25_ok : TrOk FnQ fnN25 16 25 := TrOk.node ⟨Tryz.func25, by kernel_rfl, by kernel_rfl⟩ fnN41_ok fnN57_ok
theorem fnN9_ok : TrOk FnQ fnN9 8 9 := TrOk.node ⟨Tryz.func9, by kernel_rfl, by kernel_rfl⟩ fnN17_ok fnN25_ok
theorem fnN261_ok : TrOk FnQ fnN261 256 261 := TrOk.node ⟨Tryz.func261, by kernel_rfl, by kernel_rfl⟩ TrOk.nil TrOk.nil
theorem fnN389_ok : TrOk FnQ fnN389 256 389 := TrOk.node ⟨Tryz.func389, by kernel_rfl, by kernel_rfl⟩ TrOk.nil TrOk.nil
theorem fnN133_ok : TrOk FnQ fnN133 128 133 := TrOk.node ⟨Tryz.func133, by kernel_rfl, by kernel_rfl⟩ fnN261_ok fnN389_ok
theorem fnN325_ok : TrOk FnQ fnN325 256 325 := TrOk.node ⟨Tryz.func325, by kernel_rfl, by kernel_rfl⟩ TrOk.nil TrOk.nil
theorem fnN197_ok : TrOk FnQ fnN197 128 197 := TrOk.node ⟨Tryz.func197, by kernel_rfl, by kernel_rfl⟩ fnN325_ok TrOk.nil
theorem fnN69_ok : TrOk FnQ fnN69 64 69 := TrOk.node ⟨Tryz.func69, by kernel_rfl, by kernel_rfl⟩ fnN133_ok fnN197_ok
theorem fnN293_ok : TrOk FnQ fnN293 256 293 := TrOk.node ⟨Tryz.func293, by kernel_rfl, by kernel_rfl⟩ TrOk.nil TrOk.nil
theorem fnN165_ok : TrOk FnQ fnN165 128 165 := TrOk.node ⟨Tryz.func165, by kernel_rfl, by kernel_rfl⟩ fnN293_ok TrOk.nil
theorem fnN357_ok : TrOk FnQ fnN357 256 357 := TrOk.node ⟨Tryz.func357, by kernel_rfl, by kernel_rfl⟩ TrOk.nil TrOk.nil
theorem fnN229_ok : TrOk FnQ fnN229 128 229 := TrOk.node ⟨Tryz.func229, by kernel_rfl, by kernel_rfl⟩ fnN357_ok TrOk.nil
theorem fnN101_ok : TrOk FnQ fnN101 64 101 := TrOk.node ⟨Tryz.func101, by kernel_rfl, by kernel_rfl⟩ fnN165_ok fnN229_ok
theorem fnN37_ok : TrOk FnQ fnN37 32 37 := TrOk.node ⟨Tryz.func37, by kernel_rfl, by kernel_rfl⟩ fnN69_ok fnN101_ok
theorem fnN277_ok : TrOk FnQ fnN277 256 277 := TrOk.node ⟨Tryz.func277, by kernel_rfl, by kernel_rfl⟩ TrOk.nil TrOk.nil
theorem fnN405_ok : TrOk FnQ fnN405 256 405 := TrOk.node ⟨Tryz.func405, by kernel_rfl, by kernel_rfl⟩ TrOk.nil TrOk.nil
theorem fnN149_ok : TrOk FnQ fnN149 128 149 := TrOk.node ⟨Tryz.func149, by kernel_rfl, by kernel_rfl⟩ fnN277_ok fnN405_ok
theorem fnN341_ok : TrOk FnQ fnN341 256 341 := TrOk.node ⟨Tryz.func341, by kernel_rfl, by kernel_rfl⟩ TrOk.nil TrOk.nil
theorem fnN213_ok : TrOk FnQ fnN213 128 213 := TrOk.node ⟨Tryz.func213, by kernel_rfl, by kernel_rfl⟩ fnN341_ok TrOk.nil
theorem fnN85_ok : TrOk FnQ fnN85 64 85 := TrOk.node ⟨Tryz.func85, by kernel_rfl, by kernel_rfl⟩ fnN149_ok fnN213_ok
theorem fnN309_ok : TrOk FnQ fnN309 256 309 := TrOk.node ⟨Tryz.func309, by kernel_rfl, by kernel_rfl⟩ TrOk.nil TrOk.nil
theorem fnN181_ok : TrOk FnQ fnN181 128 181 := TrOk.node ⟨Tryz.func181, by kernel_rfl, by kernel_rfl⟩ fnN309_ok TrOk.nil
theorem fnN373_ok : TrOk FnQ fnN373 256 373 := TrOk.node ⟨Tryz.func373, by kernel_rfl, by kernel_rfl⟩ TrOk.nil TrOk.nil
theorem fnN245_ok : TrOk FnQ fnN245 128 245 := TrOk.node ⟨Tryz.func245, by kernel_rfl, by kernel_rfl⟩ fnN373_ok TrOk.nil
theorem fnN117_ok : TrOk FnQ fnN117 64 117 := TrOk.node ⟨Tryz.func117, by kernel_rfl, by kernel_rfl⟩ fnN181_ok fnN245_ok
theorem fnN53_ok : TrOk FnQ fnN53 32 53 := TrOk.node ⟨Tryz.func53, by kernel_rfl, by kernel_rfl⟩ fnN85_ok fnN117_ok
theorem fnN21_ok : TrOk FnQ fnN21 16 21 := TrOk.node ⟨Tryz.func21, by kernel_rfl, by kernel_rfl⟩ fnN37_ok fnN53_ok
theorem fnN269_ok : TrOk FnQ fnN269 256 269 := TrOk.node ⟨Tryz.func269, by kernel_rfl, by kernel_rfl⟩ TrOk.nil TrOk.nil
theorem fnN397_ok : TrOk FnQ fnN397 256 397 := TrOk.node ⟨Tryz.func397, by kernel_rfl, by kernel_rfl⟩ TrOk.nil TrOk.nil
theorem fnN141_ok : TrOk FnQ fnN141 128 141 := TrOk.node ⟨Tryz.func141, by kernel_rfl, by kernel_rfl⟩ fnN269_ok fnN397_ok
theorem fnN333_ok : TrOk FnQ fnN333 256 333 := TrOk.node ⟨Tryz.func333, by kernel_rfl, by kernel_rfl⟩ TrOk.nil TrOk.nil
theorem fnN205_ok : TrOk FnQ fnN205 128 205 := TrOk.node ⟨Tryz.func205, by kernel_rfl, by kernel_rfl⟩ fnN333_ok TrOk.nil
theorem fnN77_ok : TrOk FnQ fnN77 64 77 := TrOk.node ⟨Tryz.func77, by kernel_rfl, by kernel_rfl⟩ fnN141_ok fnN205_ok
theorem fnN301_ok : TrOk FnQ fnN301 256 301 := TrOk.node ⟨Tryz.func301, by kernel_rfl, by kernel_rfl⟩ TrOk.nil TrOk.nil
theorem fnN173_ok : TrOk FnQ fnN173 128 173 := TrOk.node ⟨Tryz.func173, by kernel_rfl, by kernel_rfl⟩ fnN301_ok TrOk.nil
theorem fnN365_ok : TrOk FnQ fnN365 256 365 := TrOk.node ⟨Tryz.func365, by kernel_rfl, by kernel_rfl⟩ TrOk.nil TrOk.nil
theorem fnN237_ok : TrOk FnQ fnN237 128 237 := TrOk.node ⟨Tryz.func237, by kernel_rfl, by kernel_rfl⟩ fnN365_ok TrOk.nil
theorem fnN109_ok : TrOk FnQ fnN109 64 109 := TrOk.node ⟨Tryz.func109, by kernel_rfl, by kernel_rfl⟩ fnN173_ok fnN237_ok
theorem fnN45_ok : TrOk FnQ fnN45 32 45 := TrOk.node ⟨Tryz.func45, by kernel_rfl, by kernel_rfl⟩ fnN77_ok fnN109_ok
theorem fnN285_ok : TrOk FnQ fnN285 256 285 := TrOk.node ⟨Tryz.func285, by kernel_rfl, by kernel_rfl⟩ TrOk.nil TrOk.nil
theorem fnN413_ok : TrOk FnQ fnN413 256 413 := TrOk.node ⟨Tryz.func413, by kernel_rfl, by kernel_rfl⟩ TrOk.nil TrOk.nil
theorem fnN157_ok : TrOk FnQ fnN157 128 157 := TrOk.node ⟨Tryz.func157, by kernel_rfl, by kernel_rfl⟩ fnN285_ok fnN413_ok
theorem fnN349_ok : TrOk FnQ fnN349 256 349 := TrOk.node ⟨Tryz.func349, by kernel_rfl, by kernel_rfl⟩ TrOk.nil TrOk.nil
theorem fnN221_ok : TrOk FnQ fnN221 128 221 := TrOk.node ⟨Tryz.func221, by kernel_rfl, by kernel_rfl⟩ fnN349_ok TrOk.nil
theorem fnN93_ok : TrOk FnQ fnN93 64 93 := TrOk.node ⟨Tryz.func93, by kernel_rfl, by kernel_rfl⟩ fnN157_ok fnN221_ok
theorem fnN317_ok : TrOk FnQ fnN317 256 317 := TrOk.node ⟨Tryz.func317, by kernel_rfl, by kernel_rfl⟩ TrOk.nil TrOk.nil
theorem fnN189_ok : TrOk FnQ fnN189 128 189 := TrOk.node ⟨Tryz.func189, by kernel_rfl, by kernel_rfl⟩ fnN317_ok TrOk.nil
theorem fnN381_ok : TrOk FnQ fnN381 256 381 := TrOk.node ⟨Tryz.func381, by kernel_rfl, by kernel_rfl⟩ TrOk.nil TrOk.nil
theorem fnN253_ok : TrOk FnQ fnN253 128 253 := TrOk.node ⟨Tryz.func253, by kernel_rfl, by kernel_rfl⟩ fnN381_ok TrOk.nil
theorem fnN125_ok : TrOk FnQ fnN125 64 125 := TrOk.node ⟨Tryz.func125, by kernel_rfl, by kernel_rfl⟩ fnN189_ok fnN253_ok
theorem fnN61_ok : TrOk FnQ fnN61 32 61 := TrOk.node ⟨Tryz.func61, by kernel_rfl, by kernel_rfl⟩ fnN93_ok fnN125_ok
theorem fnN29_ok : TrOk FnQ fnN29 16 29 := TrOk.node ⟨Tryz.func29, by kernel_rfl, by kernel_rfl⟩ fnN45_ok fnN61_ok
theorem fnN13_ok : TrOk FnQ fnN13 8 13 := TrOk.node ⟨Tryz.func13, by kernel_rfl, by kernel_rfl⟩ fnN21_ok fnN29_ok
theorem fnN5_ok : TrOk FnQ fnN5 4 5 := TrOk.node ⟨Tryz.func5, by kernel_rfl, by kernel_rfl⟩ fnN9_ok fnN13_ok
theorem fnN1_ok : TrOk FnQ fnN1 2 1 := TrOk.node ⟨Tryz.func1, by kernel_rfl, by kernel_rfl⟩ fnN3_ok fnN5_ok
theorem fnN256_ok : TrOk FnQ fnN256 256 256 := TrOk.node ⟨Tryz.func256, by kernel_rfl, by kernel_rfl⟩ TrOk.nil TrOk.nil
theorem fnN384_ok : TrOk FnQ fnN384 256 384 := TrOk.node ⟨Tryz.func384, by kernel_rfl, by kernel_rfl⟩ TrOk.nil TrOk.nil
theorem fnN128_ok : TrOk FnQ fnN128 128 128 := TrOk.node ⟨Tryz.func128, by kernel_rfl, by kernel_rfl⟩ fnN256_ok fnN384_ok
theorem fnN320_ok : TrOk FnQ fnN320 256 320 := TrOk.node ⟨Tryz.func320, by kernel_rfl, by kernel_rfl⟩ TrOk.nil TrOk.nil
theorem fnN192_ok : TrOk FnQ fnN192 128 192 := TrOk.node ⟨Tryz.func192, by kernel_rfl, by kernel_rfl⟩ fnN320_ok TrOk.nil
theorem fnN64_ok : TrOk FnQ fnN64 64 64 := TrOk.node ⟨Tryz.func64, by kernel_rfl, by kernel_rfl⟩ fnN128_ok fnN192_ok
theorem fnN288_ok : TrOk FnQ fnN288 256 288 := TrOk.node ⟨Tryz.func288, by kernel_rfl, by kernel_rfl⟩ TrOk.nil TrOk.nil
theorem fnN160_ok : TrOk FnQ fnN160 128 160 := TrOk.node ⟨Tryz.func160, by kernel_rfl, by kernel_rfl⟩ fnN288_ok TrOk.nil
theorem fnN352_ok : TrOk FnQ fnN352 256 352 := TrOk.node ⟨Tryz.func352, by kernel_rfl, by kernel_rfl⟩ TrOk.nil TrOk.nil
theorem fnN224_ok : TrOk FnQ fnN224 128 224 := TrOk.node ⟨Tryz.func224, by kernel_rfl, by kernel_rfl⟩ fnN352_ok TrOk.nil
theorem fnN96_ok : TrOk FnQ fnN96 64 96 := TrOk.node ⟨Tryz.func96, by kernel_rfl, by kernel_rfl⟩ fnN160_ok fnN224_ok
theorem fnN32_ok : TrOk FnQ fnN32 32 32 := TrOk.node ⟨Tryz.func32, by kernel_rfl, by kernel_rfl⟩ fnN64_ok fnN96_ok
theorem fnN272_ok : TrOk FnQ fnN272 256 272 := TrOk.node ⟨Tryz.func272, by kernel_rfl, by kernel_rfl⟩ TrOk.nil TrOk.nil
theorem fnN400_ok : TrOk FnQ fnN400 256 400 := TrOk.node ⟨Tryz.func400, by kernel_rfl, by kernel_rfl⟩ TrOk.nil TrOk.nil
theorem fnN144_ok : TrOk FnQ fnN144 128 144 := TrOk.node ⟨Tryz.func144, by kernel_rfl, by kernel_rfl⟩ fnN272_ok fnN400_ok
theorem fnN336_ok : TrOk FnQ fnN336 256 336 := TrOk.node ⟨Tryz.func336, by kernel_rfl, by kernel_rfl⟩ TrOk.nil TrOk.nil
theorem fnN208_ok : TrOk FnQ fnN208 128 208 := TrOk.node ⟨Tryz.func208, by kernel_rfl, by kernel_rfl⟩ fnN336_ok TrOk.nil
theorem fnN80_ok : TrOk FnQ fnN80 64 80 := TrOk.node ⟨Tryz.func80, by kernel_rfl, by kernel_rfl⟩ fnN144_ok fnN208_ok
theorem fnN304_ok : TrOk FnQ fnN304 256 304 := TrOk.node ⟨Tryz.func304, by kernel_rfl, by kernel_rfl⟩ TrOk.nil TrOk.nil
theorem fnN176_ok : TrOk FnQ fnN176 128 176 := TrOk.node ⟨Tryz.func176, by kernel_rfl, by kernel_rfl⟩ fnN304_ok TrOk.nil
theorem fnN368_ok : TrOk FnQ fnN368 256 368 := TrOk.node ⟨Tryz.func368, by kernel_rfl, by kernel_rfl⟩ TrOk.nil TrOk.nil
theorem fnN240_ok : TrOk FnQ fnN240 128 240 := TrOk.node ⟨Tryz.func240, by kernel_rfl, by kernel_rfl⟩ fnN368_ok TrOk.nil
theorem fnN112_ok : TrOk FnQ fnN112 64 112 := TrOk.node ⟨Tryz.func112, by kernel_rfl, by kernel_rfl⟩ fnN176_ok fnN240_ok
theorem fnN48_ok : TrOk FnQ fnN48 32 48 := TrOk.node ⟨Tryz.func48, by kernel_rfl, by kernel_rfl⟩ fnN80_ok fnN112_ok
theorem fnN16_ok : TrOk FnQ fnN16 16 16 := TrOk.node ⟨Tryz.func16, by kernel_rfl, by kernel_rfl⟩ fnN32_ok fnN48_ok
theorem fnN264_ok : TrOk FnQ fnN264 256 264 := TrOk.node ⟨Tryz.func264, by kernel_rfl, by kernel_rfl⟩ TrOk.nil TrOk.nil
theorem fnN392_ok : TrOk FnQ fnN392 256 392 := TrOk.node ⟨Tryz.func392, by kernel_rfl, by kernel_rfl⟩ TrOk.nil TrOk.nil
theorem fnN136_ok : TrOk FnQ fnN136 128 136 := TrOk.node ⟨Tryz.func136, by kernel_rfl, by kernel_rfl⟩ fnN264_ok fnN392_ok
theorem fnN328_ok : TrOk FnQ fnN328 256 328 := TrOk.node ⟨Tryz.func328, by kernel_rfl, by kernel_rfl⟩ TrOk.nil TrOk.nil
theorem fnN200_ok : TrOk FnQ fnN200 128 200 := TrOk.node ⟨Tryz.func200, by kernel_rfl, by kernel_rfl⟩ fnN328_ok TrOk.nil
theorem fnN72_ok : TrOk FnQ fnN72 64 72 := TrOk.node ⟨Tryz.func72, by kernel_rfl, by kernel_rfl⟩ fnN136_ok fnN200_ok
theorem fnN296_ok : TrOk FnQ fnN296 256 296 := TrOk.node ⟨Tryz.func296, by kernel_rfl, by kernel_rfl⟩ TrOk.nil TrOk.nil
theorem fnN168_ok : TrOk FnQ fnN168 128 168 := TrOk.node ⟨Tryz.func168, by kernel_rfl, by kernel_rfl⟩ fnN296_ok TrOk.nil
theorem fnN360_ok : TrOk FnQ fnN360 256 360 := TrOk.node ⟨Tryz.func360, by kernel_rfl, by kernel_rfl⟩ TrOk.nil TrOk.nil
theorem fnN232_ok : TrOk FnQ fnN232 128 232 := TrOk.node ⟨Tryz.func232, by kernel_rfl, by kernel_rfl⟩ fnN360_ok TrOk.nil
theorem fnN104_ok : TrOk FnQ fnN104 64 104 := TrOk.node ⟨Tryz.func104, by kernel_rfl, by kernel_rfl⟩ fnN168_ok fnN232_ok
theorem fnN40_ok : TrOk FnQ fnN40 32 40 := TrOk.node ⟨Tryz.func40, by kernel_rfl, by kernel_rfl⟩ fnN72_ok fnN104_ok
theorem fnN280_ok : TrOk FnQ fnN280 256 280 := TrOk.node ⟨Tryz.func280, by kernel_rfl, by kernel_rfl⟩ TrOk.nil TrOk.nil
theorem fnN408_ok : TrOk FnQ fnN408 256 408 := TrOk.node ⟨Tryz.func408, by kernel_rfl, by kernel_rfl⟩ TrOk.nil TrOk.nil
theorem fnN152_ok : TrOk FnQ fnN152 128 152 := TrOk.node ⟨Tryz.func152, by kernel_rfl, by kernel_rfl⟩ fnN280_ok fnN408_ok
theorem fnN344_ok : TrOk FnQ fnN344 256 344 := TrOk.node ⟨Tryz.func344, by kernel_rfl, by kernel_rfl⟩ TrOk.nil TrOk.nil
theorem fnN216_ok : TrOk FnQ fnN216 128 216 := TrOk.node ⟨Tryz.func216, by kernel_rfl, by kernel_rfl⟩ fnN344_ok TrOk.nil
theorem fnN88_ok : TrOk FnQ fnN88 64 88 := TrOk.node ⟨Tryz.func88, by kernel_rfl, by kernel_rfl⟩ fnN152_ok fnN216_ok
theorem fnN312_ok : TrOk FnQ fnN312 256 312 := TrOk.node ⟨Tryz.func312, by kernel_rfl, by kernel_rfl⟩ TrOk.nil TrOk.nil
theorem fnN184_ok : TrOk FnQ fnN184 128 184 := TrOk.node ⟨Tryz.func184, by kernel_rfl, by kernel_rfl⟩ fnN312_ok TrOk.nil
theorem fnN376_ok : TrOk FnQ fnN376 256 376 := TrOk.node ⟨Tryz.func376, by kernel_rfl, by kernel_rfl⟩ TrOk.nil TrOk.nil
theorem fnN248_ok : TrOk FnQ fnN248 128 248 := TrOk.node ⟨Tryz.func248, by kernel_rfl, by kernel_rfl⟩ fnN376_ok TrOk.nil
theorem fnN120_ok : TrOk FnQ fnN120 64 120 := TrOk.node ⟨Tryz.func120, by kernel_rfl, by kernel_rfl⟩ fnN184_ok fnN248_ok
theorem fnN56_ok : TrOk FnQ fnN56 32 56 := TrOk.node ⟨Tryz.func56, by kernel_rfl, by kernel_rfl⟩ fnN88_ok fnN120_ok
theorem fnN24_ok : TrOk FnQ fnN24 16 24 := TrOk.node ⟨Tryz.func24, by kernel_rfl, by kernel_rfl⟩ fnN40_ok fnN56_ok
theorem fnN8_ok : TrOk FnQ fnN8 8 8 := TrOk.node ⟨Tryz.func8, by kernel_rfl, by kernel_rfl⟩ fnN16_ok fnN24_ok
theorem fnN260_ok : TrOk FnQ fnN260 256 260 := TrOk.node ⟨Tryz.func260, by kernel_rfl, by kernel_rfl⟩ TrOk.nil TrOk.nil
theorem fnN388_ok : TrOk FnQ fnN388 256 388 := TrOk.node ⟨Tryz.func388, by kernel_rfl, by kernel_rfl⟩ TrOk.nil TrOk.nil
theorem fnN132_ok : TrOk FnQ fnN132 128 132 := TrOk.node ⟨Tryz.func132, by kernel_rfl, by kernel_rfl⟩ fnN260_ok fnN388_ok
theorem fnN324_ok : TrOk FnQ fnN324 256 324 := TrOk.node ⟨Tryz.func324, by kernel_rfl, by kernel_rfl⟩ TrOk.nil TrOk.nil
theorem fnN196_ok : TrOk FnQ fnN196 128 196 := TrOk.node ⟨Tryz.func196, by kernel_rfl, by kernel_rfl⟩ fnN324_ok TrOk.nil
theorem fnN68_ok : TrOk FnQ fnN68 64 68 := TrOk.node ⟨Tryz.func68, by kernel_rfl, by kernel_rfl⟩ fnN132_ok fnN196_ok
theorem fnN292_ok : TrOk FnQ fnN292 256 292 := TrOk.node ⟨Tryz.func292, by kernel_rfl, by kernel_rfl⟩ TrOk.nil TrOk.nil
theorem fnN164_ok : TrOk FnQ fnN164 128 164 := TrOk.node ⟨Tryz.func164, by kernel_rfl, by kernel_rfl⟩ fnN292_ok TrOk.nil
theorem fnN356_ok : TrOk FnQ fnN356 256 356 := TrOk.node ⟨Tryz.func356, by kernel_rfl, by kernel_rfl⟩ TrOk.nil TrOk.nil
theorem fnN228_ok : TrOk FnQ fnN228 128 228 := TrOk.node ⟨Tryz.func228, by kernel_rfl, by kernel_rfl⟩ fnN356_ok TrOk.nil
theorem fnN100_ok : TrOk FnQ fnN100 64 100 := TrOk.node ⟨Tryz.func100, by kernel_rfl, by kernel_rfl⟩ fnN164_ok fnN228_ok
theorem fnN36_ok : TrOk FnQ fnN36 32 36 := TrOk.node ⟨Tryz.func36, by kernel_rfl, by kernel_rfl⟩ fnN68_ok fnN100_ok
theorem fnN276_ok : TrOk FnQ fnN276 256 276 := TrOk.node ⟨Tryz.func276, by kernel_rfl, by kernel_rfl⟩ TrOk.nil TrOk.nil
theorem fnN404_ok : TrOk FnQ fnN404 256 404 := TrOk.node ⟨Tryz.func404, by kernel_rfl, by kernel_rfl⟩ TrOk.nil TrOk.nil
theorem fnN148_ok : TrOk FnQ fnN148 128 148 := TrOk.node ⟨Tryz.func148, by kernel_rfl, by kernel_rfl⟩ fnN276_ok fnN404_ok
theorem fnN340_ok : TrOk FnQ fnN340 256 340 := TrOk.node ⟨Tryz.func340, by kernel_rfl, by kernel_rfl⟩ TrOk.nil TrOk.nil
theorem fnN212_ok : TrOk FnQ fnN212 128 212 := TrOk.node ⟨Tryz.func212, by kernel_rfl, by kernel_rfl⟩ fnN340_ok TrOk.nil
theorem fnN84_ok : TrOk FnQ fnN84 64 84 := TrOk.node ⟨Tryz.func84, by kernel_rfl, by kernel_rfl⟩ fnN148_ok fnN212_ok
theorem fnN308_ok : TrOk FnQ fnN308 256 308 := TrOk.node ⟨Tryz.func308, by kernel_rfl, by kernel_rfl⟩ TrOk.nil TrOk.nil
theorem fnN180_ok : TrOk FnQ fnN180 128 180 := TrOk.node ⟨Tryz.func180, by kernel_rfl, by kernel_rfl⟩ fnN308_ok TrOk.nil
theorem fnN372_ok : TrOk FnQ fnN372 256 372 := TrOk.node ⟨Tryz.func372, by kernel_rfl, by kernel_rfl⟩ TrOk.nil TrOk.nil
theorem fnN244_ok : TrOk FnQ fnN244 128 244 := TrOk.node ⟨Tryz.func244, by kernel_rfl, by kernel_rfl⟩ fnN372_ok TrOk.nil
theorem fnN116_ok : TrOk FnQ fnN116 64 116 := TrOk.node ⟨Tryz.func116, by kernel_rfl, by kernel_rfl⟩ fnN180_ok fnN244_ok
theorem fnN52_ok : TrOk FnQ fnN52 32 52 := TrOk.node ⟨Tryz.func52, by kernel_rfl, by kernel_rfl⟩ fnN84_ok fnN116_ok
theorem fnN20_ok : TrOk FnQ fnN20 16 20 := TrOk.node ⟨Tryz.func20, by kernel_rfl, by kernel_rfl⟩ fnN36_ok fnN52_ok
theorem fnN268_ok : TrOk FnQ fnN268 256 268 := TrOk.node ⟨Tryz.func268, by kernel_rfl, by kernel_rfl⟩ TrOk.nil TrOk.nil
theorem fnN396_ok : TrOk FnQ fnN396 256 396 := TrOk.node ⟨Tryz.func396, by kernel_rfl, by kernel_rfl⟩ TrOk.nil TrOk.nil
theorem fnN140_ok : TrOk FnQ fnN140 128 140 := TrOk.node ⟨Tryz.func140, by kernel_rfl, by kernel_rfl⟩ fnN268_ok fnN396_ok
theorem fnN332_ok : TrOk FnQ fnN332 256 332 := TrOk.node ⟨Tryz.func332, by kernel_rfl, by kernel_rfl⟩ TrOk.nil TrOk.nil
theorem fnN204_ok : TrOk FnQ fnN204 128 204 := TrOk.node ⟨Tryz.func204, by kernel_rfl, by kernel_rfl⟩ fnN332_ok TrOk.nil
theorem fnN76_ok : TrOk FnQ fnN76 64 76 := TrOk.node ⟨Tryz.func76, by kernel_rfl, by kernel_rfl⟩ fnN140_ok fnN204_ok
theorem fnN300_ok : TrOk FnQ fnN300 256 300 := TrOk.node ⟨Tryz.func300, by kernel_rfl, by kernel_rfl⟩ TrOk.nil TrOk.nil
theorem fnN172_ok : TrOk FnQ fnN172 128 172 := TrOk.node ⟨Tryz.func172, by kernel_rfl, by kernel_rfl⟩ fnN300_ok TrOk.nil
theorem fnN364_ok : TrOk FnQ fnN364 256 364 := TrOk.node ⟨Tryz.func364, by kernel_rfl, by kernel_rfl⟩ TrOk.nil TrOk.nil
theorem fnN236_ok : TrOk FnQ fnN236 128 236 := TrOk.node ⟨Tryz.func236, by kernel_rfl, by kernel_rfl⟩ fnN364_ok TrOk.nil
theorem fnN108_ok : TrOk FnQ fnN108 64 108 := TrOk.node ⟨Tryz.func108, by kernel_rfl, by kernel_rfl⟩ fnN172_ok fnN236_ok
theorem fnN44_ok : TrOk FnQ fnN44 32 44 := TrOk.node ⟨Tryz.func44, by kernel_rfl, by kernel_rfl⟩ fnN76_ok fnN108_ok
theorem fnN284_ok : TrOk FnQ fnN284 256 284 := TrOk.node ⟨Tryz.func284, by kernel_rfl, by kernel_rfl⟩ TrOk.nil TrOk.nil
theorem fnN412_ok : TrOk FnQ fnN412 256 412 := TrOk.node ⟨Tryz.func412, by kernel_rfl, by kernel_rfl⟩ TrOk.nil TrOk.nil
theorem fnN156_ok : TrOk FnQ fnN156 128 156 := TrOk.node ⟨Tryz.func156, by kernel_rfl, by kernel_rfl⟩ fnN284_ok fnN412_ok
theorem fnN348_ok : TrOk FnQ fnN348 256 348 := TrOk.node ⟨Tryz.func348, by kernel_rfl, by kernel_rfl⟩ TrOk.nil TrOk.nil
theorem fnN220_ok : TrOk FnQ fnN220 128 220 := TrOk.node ⟨Tryz.func220, by kernel_rfl, by kernel_rfl⟩ fnN348_ok TrOk.nil
theorem fnN92_ok : TrOk FnQ fnN92 64 92 := TrOk.node ⟨Tryz.func92, by kernel_rfl, by kernel_rfl⟩ fnN156_ok fnN220_ok
theorem fnN316_ok : TrOk FnQ fnN316 256 316 := TrOk.node ⟨Tryz.func316, by kernel_rfl, by kernel_rfl⟩ TrOk.nil TrOk.nil
theorem fnN188_ok : TrOk FnQ fnN188 128 188 := TrOk.node ⟨Tryz.func188, by kernel_rfl, by kernel_rfl⟩ fnN316_ok TrOk.nil
theorem fnN380_ok : TrOk FnQ fnN380 256 380 := TrOk.node ⟨Tryz.func380, by kernel_rfl, by kernel_rfl⟩ TrOk.nil TrOk.nil
theorem fnN252_ok : TrOk FnQ fnN252 128 252 := TrOk.node ⟨Tryz.func252, by kernel_rfl, by kernel_rfl⟩ fnN380_ok TrOk.nil
theorem fnN124_ok : TrOk FnQ fnN124 64 124 := TrOk.node ⟨Tryz.func124, by kernel_rfl, by kernel_rfl⟩ fnN188_ok fnN252_ok
theorem fnN60_ok : TrOk FnQ fnN60 32 60 := TrOk.node ⟨Tryz.func60, by kernel_rfl, by kernel_rfl⟩ fnN92_ok fnN124_ok
theorem fnN28_ok : TrOk FnQ fnN28 16 28 := TrOk.node ⟨Tryz.func28, by kernel_rfl, by kernel_rfl⟩ fnN44_ok fnN60_ok
theorem fnN12_ok : TrOk FnQ fnN12 8 12 := TrOk.node ⟨Tryz.func12, by kernel_rfl, by kernel_rfl⟩ fnN20_ok fnN28_ok
theorem fnN4_ok : TrOk FnQ fnN4 4 4 := TrOk.node ⟨Tryz.func4, by kernel_rfl, by kernel_rfl⟩ fnN8_ok fnN12_ok
theorem fnN258_ok : TrOk FnQ fnN258 256 258 := TrOk.node ⟨Tryz.func258, by kernel_rfl, by kernel_rfl⟩ TrOk.nil TrOk.nil
theorem fnN386_ok : TrOk FnQ fnN386 256 386 := TrOk.node ⟨Tryz.func386, by kernel_rfl, by kernel_rfl⟩ TrOk.nil TrOk.nil
theorem fnN130_ok : TrOk FnQ fnN130 128 130 := TrOk.node ⟨Tryz.func130, by kernel_rfl, by kernel_rfl⟩ fnN258_ok fnN386_ok
theorem fnN322_ok : TrOk FnQ fnN322 256 322 := TrOk.node ⟨Tryz.func322, by kernel_rfl, by kernel_rfl⟩ TrOk.nil TrOk.nil
theorem fnN194_ok : TrOk FnQ fnN194 128 194 := TrOk.node ⟨Tryz.func194, by kernel_rfl, by kernel_rfl⟩ fnN322_ok TrOk.nil
theorem fnN66_ok : TrOk FnQ fnN66 64 66 := TrOk.node ⟨Tryz.func66, by kernel_rfl, by kernel_rfl⟩ fnN130_ok fnN194_ok
theorem fnN290_ok : TrOk FnQ fnN290 256 290 := TrOk.node ⟨Tryz.func290, by kernel_rfl, by kernel_rfl⟩ TrOk.nil TrOk.nil
theorem fnN162_ok : TrOk FnQ fnN162 128 162 := TrOk.node ⟨Tryz.func162, by kernel_rfl, by kernel_rfl⟩ fnN290_ok TrOk.nil
theorem fnN354_ok : TrOk FnQ fnN354 256 354 := TrOk.node ⟨Tryz.func354, by kernel_rfl, by kernel_rfl⟩ TrOk.nil TrOk.nil
theorem fnN226_ok : TrOk FnQ fnN226 128 226 := TrOk.node ⟨Tryz.func226, by kernel_rfl, by kernel_rfl⟩ fnN354_ok TrOk.nil
theorem fnN98_ok : TrOk FnQ fnN98 64 98 := TrOk.node ⟨Tryz.func98, by kernel_rfl, by kernel_rfl⟩ fnN162_ok fnN226_ok
theorem fnN34_ok : TrOk FnQ fnN34 32 34 := TrOk.node ⟨Tryz.func34, by kernel_rfl, by kernel_rfl⟩ fnN66_ok fnN98_ok
theorem fnN274_ok : TrOk FnQ fnN274 256 274 := TrOk.node ⟨Tryz.func274, by kernel_rfl, by kernel_rfl⟩ TrOk.nil TrOk.nil
theorem fnN402_ok : TrOk FnQ fnN402 256 402 := TrOk.node ⟨Tryz.func402, by kernel_rfl, by kernel_rfl⟩ TrOk.nil TrOk.nil
theorem fnN146_ok : TrOk FnQ fnN146 128 146 := TrOk.node ⟨Tryz.func146, by kernel_rfl, by kernel_rfl⟩ fnN274_ok fnN402_ok
theorem fnN338_ok : TrOk FnQ fnN338 256 338 := TrOk.node ⟨Tryz.func338, by kernel_rfl, by kernel_rfl⟩ TrOk.nil TrOk.nil
theorem fnN210_ok : TrOk FnQ fnN210 128 210 := TrOk.node ⟨Tryz.func210, by kernel_rfl, by kernel_rfl⟩ fnN338_ok TrOk.nil
theorem fnN82_ok : TrOk FnQ fnN82 64 82 := TrOk.node ⟨Tryz.func82, by kernel_rfl, by kernel_rfl⟩ fnN146_ok fnN210_ok
theorem fnN306_ok : TrOk FnQ fnN306 256 306 := TrOk.node ⟨Tryz.func306, by kernel_rfl, by kernel_rfl⟩ TrOk.nil TrOk.nil
theorem fnN178_ok : TrOk FnQ fnN178 128 178 := TrOk.node ⟨Tryz.func178, by kernel_rfl, by kernel_rfl⟩ fnN306_ok TrOk.nil
theorem fnN370_ok : TrOk FnQ fnN370 256 370 := TrOk.node ⟨Tryz.func370, by kernel_rfl, by kernel_rfl⟩ TrOk.nil TrOk.nil
theorem fnN242_ok : TrOk FnQ fnN242 128 242 := TrOk.node ⟨Tryz.func242, by kernel_rfl, by kernel_rfl⟩ fnN370_ok TrOk.nil
theorem fnN114_ok : TrOk FnQ fnN114 64 114 := TrOk.node ⟨Tryz.func114, by kernel_rfl, by kernel_rfl⟩ fnN178_ok fnN242_ok
theorem fnN50_ok : TrOk FnQ fnN50 32 50 := TrOk.node ⟨Tryz.func50, by kernel_rfl, by kernel_rfl⟩ fnN82_ok fnN114_ok
theorem fnN18_ok : TrOk FnQ fnN18 16 18 := TrOk.node ⟨Tryz.func18, by kernel_rfl, by kernel_rfl⟩ fnN34_ok fnN50_ok
theorem fnN266_ok : TrOk FnQ fnN266 256 266 := TrOk.node ⟨Tryz.func266, by kernel_rfl, by kernel_rfl⟩ TrOk.nil TrOk.nil
theorem fnN394_ok : TrOk FnQ fnN394 256 394 := TrOk.node ⟨Tryz.func394, by kernel_rfl, by kernel_rfl⟩ TrOk.nil TrOk.nil
theorem fnN138_ok : TrOk FnQ fnN138 128 138 := TrOk.node ⟨Tryz.func138, by kernel_rfl, by kernel_rfl⟩ fnN266_ok fnN394_ok
theorem fnN330_ok : TrOk FnQ fnN330 256 330 := TrOk.node ⟨Tryz.func330, by kernel_rfl, by kernel_rfl⟩ TrOk.nil TrOk.nil
theorem fnN202_ok : TrOk FnQ fnN202 128 202 := TrOk.node ⟨Tryz.func202, by kernel_rfl, by kernel_rfl⟩ fnN330_ok TrOk.nil
theorem fnN74_ok : TrOk FnQ fnN74 64 74 := TrOk.node ⟨Tryz.func74, by kernel_rfl, by kernel_rfl⟩ fnN138_ok fnN202_ok
theorem fnN298_ok : TrOk FnQ fnN298 256 298 := TrOk.node ⟨Tryz.func298, by kernel_rfl, by kernel_rfl⟩ TrOk.nil TrOk.nil
theorem fnN170_ok : TrOk FnQ fnN170 128 170 := TrOk.node ⟨Tryz.func170, by kernel_rfl, by kernel_rfl⟩ fnN298_ok TrOk.nil
theorem fnN362_ok : TrOk FnQ fnN362 256 362 := TrOk.node ⟨Tryz.func362, by kernel_rfl, by kernel_rfl⟩ TrOk.nil TrOk.nil
theorem fnN234_ok : TrOk FnQ fnN234 128 234 := TrOk.node ⟨Tryz.func234, by kernel_rfl, by kernel_rfl⟩ fnN362_ok TrOk.nil
theorem fnN106_ok : TrOk FnQ fnN106 64 106 := TrOk.node ⟨Tryz.func106, by kernel_rfl, by kernel_rfl⟩ fnN170_ok fnN234_ok
theorem fnN42_ok : TrOk FnQ fnN42 32 42 := TrOk.node ⟨Tryz.func42, by kernel_rfl, by kernel_rfl⟩ fnN74_ok fnN106_ok
theorem fnN282_ok : TrOk FnQ fnN282 256 282 := TrOk.node ⟨Tryz.func282, by kernel_rfl, by kernel_rfl⟩ TrOk.nil TrOk.nil
theorem fnN410_ok : TrOk FnQ fnN410 256 410 := TrOk.node ⟨Tryz.func410, by kernel_rfl, by kernel_rfl⟩ TrOk.nil TrOk.nil
theorem fnN154_ok : TrOk FnQ fnN154 128 154 := TrOk.node ⟨Tryz.func154, by kernel_rfl, by kernel_rfl⟩ fnN282_ok fnN410_ok
theorem fnN346_ok : TrOk FnQ fnN346 256 346 := TrOk.node ⟨Tryz.func346, by kernel_rfl, by kernel_rfl⟩ TrOk.nil TrOk.nil
theorem fnN218_ok : TrOk FnQ fnN218 128 218 := TrOk.node ⟨Tryz.func218, by kernel_rfl, by kernel_rfl⟩ fnN346_ok TrOk.nil
theorem fnN90_ok : TrOk FnQ fnN90 64 90 := TrOk.node ⟨Tryz.func90, by kernel_rfl, by kernel_rfl⟩ fnN154_ok fnN218_ok
theorem fnN314_ok : TrOk FnQ fnN314 256 314 := TrOk.node ⟨Tryz.func314, by kernel_rfl, by kernel_rfl⟩ TrOk.nil TrOk.nil
theorem fnN186_ok : TrOk FnQ fnN186 128 186 := TrOk.node ⟨Tryz.func186, by kernel_rfl, by kernel_rfl⟩ fnN314_ok TrOk.nil
theorem fnN378_ok : TrOk FnQ fnN378 256 378 := TrOk.node ⟨Tryz.func378, by kernel_rfl, by kernel_rfl⟩ TrOk.nil TrOk.nil
theorem fnN250_ok : TrOk FnQ fnN250 128 250 := TrOk.node ⟨Tryz.func250, by kernel_rfl, by kernel_rfl⟩ fnN378_ok TrOk.nil
theorem fnN122_ok : TrOk FnQ fnN122 64 122 := TrOk.node ⟨Tryz.func122, by kernel_rfl, by kernel_rfl⟩ fnN186_ok fnN250_ok
theorem fnN58_ok : TrOk FnQ fnN58 32 58 := TrOk.node ⟨Tryz.func58, by kernel_rfl, by kernel_rfl⟩ fnN90_ok fnN122_ok
theorem fnN26_ok : TrOk FnQ fnN26 16 26 := TrOk.node ⟨Tryz.func26, by kernel_rfl, by kernel_rfl⟩ fnN42_ok fnN58_ok
theorem fnN10_ok : TrOk FnQ fnN10 8 10 := TrOk.node ⟨Tryz.func10, by kernel_rfl, by kernel_rfl⟩ fnN18_ok fnN26_ok
theorem fnN262_ok : TrOk FnQ fnN262 256 262 := TrOk.node ⟨Tryz.func262, by kernel_rfl, by kernel_rfl⟩ TrOk.nil TrOk.nil
theorem fnN390_ok : TrOk FnQ fnN390 256 390 := TrOk.node ⟨Tryz.func390, by kernel_rfl, by kernel_rfl⟩ TrOk.nil TrOk.nil
theorem fnN134_ok : TrOk FnQ fnN134 128 134 := TrOk.node ⟨Tryz.func134, by kernel_rfl, by kernel_rfl⟩ fnN262_ok fnN390_ok
theorem fnN326_ok : TrOk FnQ fnN326 256 326 := TrOk.node ⟨Tryz.func326, by kernel_rfl, by kernel_rfl⟩ TrOk.nil TrOk.nil
theorem fnN198_ok : TrOk FnQ fnN198 128 198 := TrOk.node ⟨Tryz.func198, by kernel_rfl, by kernel_rfl⟩ fnN326_ok TrOk.nil
theorem fnN70_ok : TrOk FnQ fnN70 64 70 := TrOk.node ⟨Tryz.func70, by kernel_rfl, by kernel_rfl⟩ fnN134_ok fnN198_ok
theorem fnN294_ok : TrOk FnQ fnN294 256 294 := TrOk.node ⟨Tryz.func294, by kernel_rfl, by kernel_rfl⟩ TrOk.nil TrOk.nil
theorem fnN166_ok : TrOk FnQ fnN166 128 166 := TrOk.node ⟨Tryz.func166, by kernel_rfl, by kernel_rfl⟩ fnN294_ok TrOk.nil
theorem fnN358_ok : TrOk FnQ fnN358 256 358 := TrOk.node ⟨Tryz.func358, by kernel_rfl, by kernel_rfl⟩ TrOk.nil TrOk.nil
theorem fnN230_ok : TrOk FnQ fnN230 128 230 := TrOk.node ⟨Tryz.func230, by kernel_rfl, by kernel_rfl⟩ fnN358_ok TrOk.nil
theorem fnN102_ok : TrOk FnQ fnN102 64 102 := TrOk.node ⟨Tryz.func102, by kernel_rfl, by kernel_rfl⟩ fnN166_ok fnN230_ok
theorem fnN38_ok : TrOk FnQ fnN38 32 38 := TrOk.node ⟨Tryz.func38, by kernel_rfl, by kernel_rfl⟩ fnN70_ok fnN102_ok
theorem fnN278_ok : TrOk FnQ fnN278 256 278 := TrOk.node ⟨Tryz.func278, by kernel_rfl, by kernel_rfl⟩ TrOk.nil TrOk.nil
theorem fnN406_ok : TrOk FnQ fnN406 256 406 := TrOk.node ⟨Tryz.func406, by kernel_rfl, by kernel_rfl⟩ TrOk.nil TrOk.nil
theorem fnN150_ok : TrOk FnQ fnN150 128 150 := TrOk.node ⟨Tryz.func150, by kernel_rfl, by kernel_rfl⟩ fnN278_ok fnN406_ok
theorem fnN342_ok : TrOk FnQ fnN342 256 342 := TrOk.node ⟨Tryz.func342, by kernel_rfl, by kernel_rfl⟩ TrOk.nil TrOk.nil
theorem fnN214_ok : TrOk FnQ fnN214 128 214 := TrOk.node ⟨Tryz.func214, by kernel_rfl, by kernel_rfl⟩ fnN342_ok TrOk.nil
theorem fnN86_ok : TrOk FnQ fnN86 64 86 := TrOk.node ⟨Tryz.func86, by kernel_rfl, by kernel_rfl⟩ fnN150_ok fnN214_ok
theorem fnN310_ok : TrOk FnQ fnN310 256 310 := TrOk.node ⟨Tryz.func310, by kernel_rfl, by kernel_rfl⟩ TrOk.nil TrOk.nil
theorem fnN182_ok : TrOk FnQ fnN182 128 182 := TrOk.node ⟨Tryz.func182, by kernel_rfl, by kernel_rfl⟩ fnN310_ok TrOk.nil
theorem fnN374_ok : TrOk FnQ fnN374 256 374 := TrOk.node ⟨Tryz.func374, by kernel_rfl, by kernel_rfl⟩ TrOk.nil TrOk.nil
theorem fnN246_ok : TrOk FnQ fnN246 128 246 := TrOk.node ⟨Tryz.func246, by kernel_rfl, by kernel_rfl⟩ fnN374_ok TrOk.nil
theorem fnN118_ok : TrOk FnQ fnN118 64 118 := TrOk.node ⟨Tryz.func118, by kernel_rfl, by kernel_rfl⟩ fnN182_ok fnN246_ok
theorem fnN54_ok : TrOk FnQ fnN54 32 54 := TrOk.node ⟨Tryz.func54, by kernel_rfl, by kernel_rfl⟩ fnN86_ok fnN118_ok
theorem fnN22_ok : TrOk FnQ fnN22 16 22 := TrOk.node ⟨Tryz.func22, by kernel_rfl, by kernel_rfl⟩ fnN38_ok fnN54_ok
theorem fnN270_ok : TrOk FnQ fnN270 256 270 := TrOk.node ⟨Tryz.func270, by kernel_rfl, by kernel_rfl⟩ TrOk.nil TrOk.nil
theorem fnN398_ok : TrOk FnQ fnN398 256 398 := TrOk.node ⟨Tryz.func398, by kernel_rfl, by kernel_rfl⟩ TrOk.nil TrOk.nil
theorem fnN142_ok : TrOk FnQ fnN142 128 142 := TrOk.node ⟨Tryz.func142, by kernel_rfl, by kernel_rfl⟩ fnN270_ok fnN398_ok
theorem fnN334_ok : TrOk FnQ fnN334 256 334 := TrOk.node ⟨Tryz.func334, by kernel_rfl, by kernel_rfl⟩ TrOk.nil TrOk.nil
theorem fnN206_ok : TrOk FnQ fnN206 128 206 := TrOk.node ⟨Tryz.func206, by kernel_rfl, by kernel_rfl⟩ fnN334_ok TrOk.nil
theorem fnN78_ok : TrOk FnQ fnN78 64 78 := TrOk.node ⟨Tryz.func78, by kernel_rfl, by kernel_rfl⟩ fnN142_ok fnN206_ok
theorem fnN302_ok : TrOk FnQ fnN302 256 302 := TrOk.node ⟨Tryz.func302, by kernel_rfl, by kernel_rfl⟩ TrOk.nil TrOk.nil
theorem fnN174_ok : TrOk FnQ fnN174 128 174 := TrOk.node ⟨Tryz.func174, by kernel_rfl, by kernel_rfl⟩ fnN302_ok TrOk.nil
theorem fnN366_ok : TrOk FnQ fnN366 256 366 := TrOk.node ⟨Tryz.func366, by kernel_rfl, by kernel_rfl⟩ TrOk.nil TrOk.nil
theorem fnN238_ok : TrOk FnQ fnN238 128 238 := TrOk.node ⟨Tryz.func238, by kernel_rfl, by kernel_rfl⟩ fnN366_ok TrOk.nil
theorem fnN110_ok : TrOk FnQ fnN110 64 110 := TrOk.node ⟨Tryz.func110, by kernel_rfl, by kernel_rfl⟩ fnN174_ok fnN238_ok
theorem fnN46_ok : TrOk FnQ fnN46 32 46 := TrOk.node ⟨Tryz.func46, by kernel_rfl, by kernel_rfl⟩ fnN78_ok fnN110_ok
theorem fnN286_ok : TrOk FnQ fnN286 256 286 := TrOk.node ⟨Tryz.func286, by kernel_rfl, by kernel_rfl⟩ TrOk.nil TrOk.nil
theorem fnN158_ok : TrOk FnQ fnN158 128 158 := TrOk.node ⟨Tryz.func158, by kernel_rfl, by kernel_rfl⟩ fnN286_ok TrOk.nil
theorem fnN350_ok : TrOk FnQ fnN350 256 350 := TrOk.node ⟨Tryz.func350, by kernel_rfl, by kernel_rfl⟩ TrOk.nil TrOk.nil
theorem fnN222_ok : TrOk FnQ fnN222 128 222 := TrOk.node ⟨Tryz.func222, by kernel_rfl, by kernel_rfl⟩ fnN350_ok TrOk.nil
theorem fnN94_ok : TrOk FnQ fnN94 64 94 := TrOk.node ⟨Tryz.func94, by kernel_rfl, by kernel_rfl⟩ fnN158_ok fnN222_ok
theorem fnN318_ok : TrOk FnQ fnN318 256 318 := TrOk.node ⟨Tryz.func318, by kernel_rfl, by kernel_rfl⟩ TrOk.nil TrOk.nil
theorem fnN190_ok : TrOk FnQ fnN190 128 190 := TrOk.node ⟨Tryz.func190, by kernel_rfl, by kernel_rfl⟩ fnN318_ok TrOk.nil
theorem fnN382_ok : TrOk FnQ fnN382 256 382 := TrOk.node ⟨Tryz.func382, by kernel_rfl, by kernel_rfl⟩ TrOk.nil TrOk.nil
theorem fnN254_ok : TrOk FnQ fnN254 128 254 := TrOk.node ⟨Tryz.func254, by kernel_rfl, by kernel_rfl⟩ fnN382_ok TrOk.nil
theorem fnN126_ok : TrOk FnQ fnN126 64 126 := TrOk.node ⟨Tryz.func126, by kernel_rfl, by kernel_rfl⟩ fnN190_ok fnN254_ok
theorem fnN62_ok : TrOk FnQ fnN62 32 62 := TrOk.node ⟨Tryz.func62, by kernel_rfl, by kernel_rfl⟩ fnN94_ok fnN126_ok
theorem fnN30_ok : TrOk FnQ fnN30 16 30 := TrOk.node ⟨Tryz.func30, by kernel_rfl, by kernel_rfl⟩ fnN46_ok fnN62_ok
theorem fnN14_ok : TrOk FnQ fnN14 8 14 := TrOk.node ⟨Tryz.func14, by kernel_rfl, by kernel_rfl⟩ fnN22_ok fnN30_ok
theorem fnN6_ok : TrOk FnQ fnN6 4 6 := TrOk.node ⟨Tryz.func6, by kernel_rfl, by kernel_rfl⟩ fnN10_ok fnN14_ok
theorem fnN2_ok : TrOk FnQ fnN2 2 2 := TrOk.node ⟨Tryz.func2, by kernel_rfl, by kernel_rfl⟩ fnN4_ok fnN6_ok
theorem fnN0_ok : TrOk FnQ fnN0 1 0 := TrOk.node ⟨Tryz.func0, by kernel_rfl, by kernel_rfl⟩ fnN1_ok fnN2_ok
theorem ty_at {t : Nat} {i : TypeInfo} (h : tyN0.get? t = some i) : TyQ t i := by
  have := tyN0_ok t i h
  rwa [Nat.one_mul, Nat.add_zero] at this
theorem fn_at {t : Nat} {i : Func} (h : fnN0.get? t = some i) : FnQ t i := by
  have := fnN0_ok t i h
  rwa [Nat.one_mul, Nat.add_zero] at this
theorem meth_at (hint : Nat → List Nat) : ∀ t s f, (env hint).meth t s = some f → ∀ (v : Value) (w : World), (method (Tryz.prog.types.size + Made.depth) t v s).run Tryz.prog w = .ok (f, v) w := by
    intro t s f h v w
    have h : methT t s = some f := h
    unfold methT at h
    rw [bif_eq] at h
    split at h
    · rename_i e
      rw [Bool.and_eq_true, decide_eq_true_eq] at e
      obtain rfl := Nat.eq_of_beq_eq_true e.1
      obtain rfl := e.2
      cases h
      show _ = _
      kernel_rfl
    rw [bif_eq] at h
    split at h
    · rename_i e
      rw [Bool.and_eq_true, decide_eq_true_eq] at e
      obtain rfl := Nat.eq_of_beq_eq_true e.1
      obtain rfl := e.2
      cases h
      show _ = _
      kernel_rfl
    rw [bif_eq] at h
    split at h
    · rename_i e
      rw [Bool.and_eq_true, decide_eq_true_eq] at e
      obtain rfl := Nat.eq_of_beq_eq_true e.1
      obtain rfl := e.2
      cases h
      show _ = _
      kernel_rfl
    rw [bif_eq] at h
    split at h
    · rename_i e
      rw [Bool.and_eq_true, decide_eq_true_eq] at e
      obtain rfl := Nat.eq_of_beq_eq_true e.1
      obtain rfl := e.2
      cases h
      show _ = _
      kernel_rfl
    rw [bif_eq] at h
    split at h
    · rename_i e
      rw [Bool.and_eq_true, decide_eq_true_eq] at e
      obtain rfl := Nat.eq_of_beq_eq_true e.1
      obtain rfl := e.2
      cases h
      show _ = _
      kernel_rfl
    rw [bif_eq] at h
    split at h
    · rename_i e
      rw [Bool.and_eq_true, decide_eq_true_eq] at e
      obtain rfl := Nat.eq_of_beq_eq_true e.1
      obtain rfl := e.2
      cases h
      show _ = _
      kernel_rfl
    rw [bif_eq] at h
    split at h
    · rename_i e
      rw [Bool.and_eq_true, decide_eq_true_eq] at e
      obtain rfl := Nat.eq_of_beq_eq_true e.1
      obtain rfl := e.2
      cases h
      show _ = _
      kernel_rfl
    rw [bif_eq] at h
    split at h
    · rename_i e
      rw [Bool.and_eq_true, decide_eq_true_eq] at e
      obtain rfl := Nat.eq_of_beq_eq_true e.1
      obtain rfl := e.2
      cases h
      show _ = _
      kernel_rfl
    rw [bif_eq] at h
    split at h
    · rename_i e
      rw [Bool.and_eq_true, decide_eq_true_eq] at e
      obtain rfl := Nat.eq_of_beq_eq_true e.1
      obtain rfl := e.2
      cases h
      show _ = _
      kernel_rfl
    rw [bif_eq] at h
    split at h
    · rename_i e
      rw [Bool.and_eq_true, decide_eq_true_eq] at e
      obtain rfl := Nat.eq_of_beq_eq_true e.1
      obtain rfl := e.2
      cases h
      show _ = _
      kernel_rfl
    rw [bif_eq] at h
    split at h
    · rename_i e
      rw [Bool.and_eq_true, decide_eq_true_eq] at e
      obtain rfl := Nat.eq_of_beq_eq_true e.1
      obtain rfl := e.2
      cases h
      show _ = _
      kernel_rfl
    rw [bif_eq] at h
    split at h
    · rename_i e
      rw [Bool.and_eq_true, decide_eq_true_eq] at e
      obtain rfl := Nat.eq_of_beq_eq_true e.1
      obtain rfl := e.2
      cases h
      show _ = _
      kernel_rfl
    rw [bif_eq] at h
    split at h
    · rename_i e
      rw [Bool.and_eq_true, decide_eq_true_eq] at e
      obtain rfl := Nat.eq_of_beq_eq_true e.1
      obtain rfl := e.2
      cases h
      show _ = _
      kernel_rfl
    rw [bif_eq] at h
    split at h
    · rename_i e
      rw [Bool.and_eq_true, decide_eq_true_eq] at e
      obtain rfl := Nat.eq_of_beq_eq_true e.1
      obtain rfl := e.2
      cases h
      show _ = _
      kernel_rfl
    rw [bif_eq] at h
    split at h
    · rename_i e
      rw [Bool.and_eq_true, decide_eq_true_eq] at e
      obtain rfl := Nat.eq_of_beq_eq_true e.1
      obtain rfl := e.2
      cases h
      show _ = _
      kernel_rfl
    rw [bif_eq] at h
    split at h
    · rename_i e
      rw [Bool.and_eq_true, decide_eq_true_eq] at e
      obtain rfl := Nat.eq_of_beq_eq_true e.1
      obtain rfl := e.2
      cases h
      show _ = _
      kernel_rfl
    rw [bif_eq] at h
    split at h
    · rename_i e
      rw [Bool.and_eq_true, decide_eq_true_eq] at e
      obtain rfl := Nat.eq_of_beq_eq_true e.1
      obtain rfl := e.2
      cases h
      show _ = _
      kernel_rfl
    rw [bif_eq] at h
    split at h
    · rename_i e
      rw [Bool.and_eq_true, decide_eq_true_eq] at e
      obtain rfl := Nat.eq_of_beq_eq_true e.1
      obtain rfl := e.2
      cases h
      show _ = _
      kernel_rfl
    rw [bif_eq] at h
    split at h
    · rename_i e
      rw [Bool.and_eq_true, decide_eq_true_eq] at e
      obtain rfl := Nat.eq_of_beq_eq_true e.1
      obtain rfl := e.2
      cases h
      show _ = _
      kernel_rfl
    rw [bif_eq] at h
    split at h
    · rename_i e
      rw [Bool.and_eq_true, decide_eq_true_eq] at e
      obtain rfl := Nat.eq_of_beq_eq_true e.1
      obtain rfl := e.2
      cases h
      show _ = _
      kernel_rfl
    rw [bif_eq] at h
    split at h
    · rename_i e
      rw [Bool.and_eq_true, decide_eq_true_eq] at e
      obtain rfl := Nat.eq_of_beq_eq_true e.1
      obtain rfl := e.2
      cases h
      show _ = _
      kernel_rfl
    cases h
theorem ahead_at (hint : Nat → List Nat) : ∀ t s f, (env hint).meth t s = some f → ∀ (a : Addr) (w : World), (nilAhead (Tryz.prog.types.size + Made.depth) t (.pointer (some a)) s).run Tryz.prog w = .ok (some false) w := by
    intro t s f h a w
    have h : methT t s = some f := h
    unfold methT at h
    rw [bif_eq] at h
    split at h
    · rename_i e
      rw [Bool.and_eq_true, decide_eq_true_eq] at e
      obtain rfl := Nat.eq_of_beq_eq_true e.1
      obtain rfl := e.2
      cases h
      show _ = _
      kernel_rfl
    rw [bif_eq] at h
    split at h
    · rename_i e
      rw [Bool.and_eq_true, decide_eq_true_eq] at e
      obtain rfl := Nat.eq_of_beq_eq_true e.1
      obtain rfl := e.2
      cases h
      show _ = _
      kernel_rfl
    rw [bif_eq] at h
    split at h
    · rename_i e
      rw [Bool.and_eq_true, decide_eq_true_eq] at e
      obtain rfl := Nat.eq_of_beq_eq_true e.1
      obtain rfl := e.2
      cases h
      show _ = _
      kernel_rfl
    rw [bif_eq] at h
    split at h
    · rename_i e
      rw [Bool.and_eq_true, decide_eq_true_eq] at e
      obtain rfl := Nat.eq_of_beq_eq_true e.1
      obtain rfl := e.2
      cases h
      show _ = _
      kernel_rfl
    rw [bif_eq] at h
    split at h
    · rename_i e
      rw [Bool.and_eq_true, decide_eq_true_eq] at e
      obtain rfl := Nat.eq_of_beq_eq_true e.1
      obtain rfl := e.2
      cases h
      show _ = _
      kernel_rfl
    rw [bif_eq] at h
    split at h
    · rename_i e
      rw [Bool.and_eq_true, decide_eq_true_eq] at e
      obtain rfl := Nat.eq_of_beq_eq_true e.1
      obtain rfl := e.2
      cases h
      show _ = _
      kernel_rfl
    rw [bif_eq] at h
    split at h
    · rename_i e
      rw [Bool.and_eq_true, decide_eq_true_eq] at e
      obtain rfl := Nat.eq_of_beq_eq_true e.1
      obtain rfl := e.2
      cases h
      show _ = _
      kernel_rfl
    rw [bif_eq] at h
    split at h
    · rename_i e
      rw [Bool.and_eq_true, decide_eq_true_eq] at e
      obtain rfl := Nat.eq_of_beq_eq_true e.1
      obtain rfl := e.2
      cases h
      show _ = _
      kernel_rfl
    rw [bif_eq] at h
    split at h
    · rename_i e
      rw [Bool.and_eq_true, decide_eq_true_eq] at e
      obtain rfl := Nat.eq_of_beq_eq_true e.1
      obtain rfl := e.2
      cases h
      show _ = _
      kernel_rfl
    rw [bif_eq] at h
    split at h
    · rename_i e
      rw [Bool.and_eq_true, decide_eq_true_eq] at e
      obtain rfl := Nat.eq_of_beq_eq_true e.1
      obtain rfl := e.2
      cases h
      show _ = _
      kernel_rfl
    rw [bif_eq] at h
    split at h
    · rename_i e
      rw [Bool.and_eq_true, decide_eq_true_eq] at e
      obtain rfl := Nat.eq_of_beq_eq_true e.1
      obtain rfl := e.2
      cases h
      show _ = _
      kernel_rfl
    rw [bif_eq] at h
    split at h
    · rename_i e
      rw [Bool.and_eq_true, decide_eq_true_eq] at e
      obtain rfl := Nat.eq_of_beq_eq_true e.1
      obtain rfl := e.2
      cases h
      show _ = _
      kernel_rfl
    rw [bif_eq] at h
    split at h
    · rename_i e
      rw [Bool.and_eq_true, decide_eq_true_eq] at e
      obtain rfl := Nat.eq_of_beq_eq_true e.1
      obtain rfl := e.2
      cases h
      show _ = _
      kernel_rfl
    rw [bif_eq] at h
    split at h
    · rename_i e
      rw [Bool.and_eq_true, decide_eq_true_eq] at e
      obtain rfl := Nat.eq_of_beq_eq_true e.1
      obtain rfl := e.2
      cases h
      show _ = _
      kernel_rfl
    rw [bif_eq] at h
    split at h
    · rename_i e
      rw [Bool.and_eq_true, decide_eq_true_eq] at e
      obtain rfl := Nat.eq_of_beq_eq_true e.1
      obtain rfl := e.2
      cases h
      show _ = _
      kernel_rfl
    rw [bif_eq] at h
    split at h
    · rename_i e
      rw [Bool.and_eq_true, decide_eq_true_eq] at e
      obtain rfl := Nat.eq_of_beq_eq_true e.1
      obtain rfl := e.2
      cases h
      show _ = _
      kernel_rfl
    rw [bif_eq] at h
    split at h
    · rename_i e
      rw [Bool.and_eq_true, decide_eq_true_eq] at e
      obtain rfl := Nat.eq_of_beq_eq_true e.1
      obtain rfl := e.2
      cases h
      show _ = _
      kernel_rfl
    rw [bif_eq] at h
    split at h
    · rename_i e
      rw [Bool.and_eq_true, decide_eq_true_eq] at e
      obtain rfl := Nat.eq_of_beq_eq_true e.1
      obtain rfl := e.2
      cases h
      show _ = _
      kernel_rfl
    rw [bif_eq] at h
    split at h
    · rename_i e
      rw [Bool.and_eq_true, decide_eq_true_eq] at e
      obtain rfl := Nat.eq_of_beq_eq_true e.1
      obtain rfl := e.2
      cases h
      show _ = _
      kernel_rfl
    rw [bif_eq] at h
    split at h
    · rename_i e
      rw [Bool.and_eq_true, decide_eq_true_eq] at e
      obtain rfl := Nat.eq_of_beq_eq_true e.1
      obtain rfl := e.2
      cases h
      show _ = _
      kernel_rfl
    rw [bif_eq] at h
    split at h
    · rename_i e
      rw [Bool.and_eq_true, decide_eq_true_eq] at e
      obtain rfl := Nat.eq_of_beq_eq_true e.1
      obtain rfl := e.2
      cases h
      show _ = _
      kernel_rfl
    cases h
theorem env_ok (hint : Nat → List Nat) : EnvOk Tryz.prog (env hint) := ⟨fun _ _ h => (ty_at h).1, fun _ _ _ h hz => zeroB_ok (ty_at h).2 _ hz, fun _ _ h => (fn_at h).1, fun _ _ h => (fn_at h).2.1, meth_at hint, ahead_at hint⟩
theorem env_fn (hint : Nat → List Nat) : ∀ f fn, (env hint).fn f = some fn → FnOk fn := fun _ _ h => fnB_ok (fn_at h).2.2
theorem cmp_ok (hint : Nat → List Nat) : CmpOk Tryz.prog (env hint) := by
  constructor
  · intro t h
    have h : cmpT t = true := h
    unfold cmpT at h
    split at h
    · show _ = _
      kernel_rfl
    · show _ = _
      kernel_rfl
    · show _ = _
      kernel_rfl
    · show _ = _
      kernel_rfl
    · cases h
  · intro t h
    have h : cmpT t = true := h
    unfold cmpT at h
    split at h
    · show _ = _
      kernel_rfl
    · show _ = _
      kernel_rfl
    · show _ = _
      kernel_rfl
    · show _ = _
      kernel_rfl
    · cases h
theorem prims_ok (hint : Nat → List Nat) : PrimsOk Tryz.prog (env hint) where
  grow := fun f p h args m v m' hp hm => by
    have h : prT.get? f = some (.fn p) := h
    rcases set_case h (by decide) with ⟨rfl, e⟩ | h
    · cases e
      exact pRank_grow hp hm
    rcases set_case h (by decide) with ⟨rfl, e⟩ | h
    · cases e
      exact pStripe_grow hp hm
    rcases set_case h (by decide) with ⟨rfl, e⟩ | h
    · cases e
      exact pBLive_grow hp hm
    rcases set_case h (by decide) with ⟨rfl, e⟩ | h
    · cases e
      exact pWrites_grow hp hm
    rcases set_case h (by decide) with ⟨rfl, e⟩ | h
    · cases e
      exact pLeft_grow hp hm
    rcases set_case h (by decide) with ⟨rfl, e⟩ | h
    · cases e
    rcases set_case h (by decide) with ⟨rfl, e⟩ | h
    · cases e
    rcases set_case h (by decide) with ⟨rfl, e⟩ | h
    · cases e
    rcases set_case h (by decide) with ⟨rfl, e⟩ | h
    · cases e
    rcases set_case h (by decide) with ⟨rfl, e⟩ | h
    · cases e
    rcases set_case h (by decide) with ⟨rfl, e⟩ | h
    · cases e
      exact pBCAS_grow hp hm
    rcases set_case h (by decide) with ⟨rfl, e⟩ | h
    · cases e
      exact pBStore_grow hp hm
    rcases set_case h (by decide) with ⟨rfl, e⟩ | h
    · cases e
      exact pBFree_grow hp hm
    rcases set_case h (by decide) with ⟨rfl, e⟩ | h
    · cases e
      exact pBAlloc_grow hp hm
    rcases set_case h (by decide) with ⟨rfl, e⟩ | h
    · cases e
      exact pBLoad_grow hp hm
    rcases set_case h (by decide) with ⟨rfl, e⟩ | h
    · cases e
    rcases set_case h (by decide) with ⟨rfl, e⟩ | h
    · cases e
      exact pOn_grow hp hm
    rcases set_case h (by decide) with ⟨rfl, e⟩ | h
    · cases e
      exact pIs_grow hp hm
    rcases set_case h (by decide) with ⟨rfl, e⟩ | h
    · cases e
      exact pNo_grow hp hm
    cases h
  fn := fun f p h => by
    have h : prT.get? f = some (.fn p) := h
    rcases set_case h (by decide) with ⟨rfl, e⟩ | h
    · cases e
      exact ⟨Tryz.call190, fun args m v m' hp G ρ w args' hc hr => pRank_ok hp hc hr⟩
    rcases set_case h (by decide) with ⟨rfl, e⟩ | h
    · cases e
      exact ⟨Tryz.call149, fun args m v m' hp G ρ w args' hc hr => pStripe_ok hp hc hr⟩
    rcases set_case h (by decide) with ⟨rfl, e⟩ | h
    · cases e
      exact ⟨Tryz.call106, fun args m v m' hp G ρ w args' hc hr => pBLive_ok (E := env hint) (by kernel_rfl) hp hc hr⟩
    rcases set_case h (by decide) with ⟨rfl, e⟩ | h
    · cases e
      exact ⟨Tryz.call274, fun args m v m' hp G ρ w args' hc hr => pWrites_ok (E := env hint) (by kernel_rfl) hp hc hr⟩
    rcases set_case h (by decide) with ⟨rfl, e⟩ | h
    · cases e
      exact ⟨Tryz.call116, fun args m v m' hp G ρ w args' hc hr => pLeft_ok hp hc hr⟩
    rcases set_case h (by decide) with ⟨rfl, e⟩ | h
    · cases e
    rcases set_case h (by decide) with ⟨rfl, e⟩ | h
    · cases e
    rcases set_case h (by decide) with ⟨rfl, e⟩ | h
    · cases e
    rcases set_case h (by decide) with ⟨rfl, e⟩ | h
    · cases e
    rcases set_case h (by decide) with ⟨rfl, e⟩ | h
    · cases e
    rcases set_case h (by decide) with ⟨rfl, e⟩ | h
    · cases e
      exact ⟨Tryz.call207, fun args m v m' hp G ρ w args' hc hr => pBCAS_ok hp hc hr⟩
    rcases set_case h (by decide) with ⟨rfl, e⟩ | h
    · cases e
      exact ⟨Tryz.call145, fun args m v m' hp G ρ w args' hc hr => pBStore_ok hp hc hr⟩
    rcases set_case h (by decide) with ⟨rfl, e⟩ | h
    · cases e
      exact ⟨Tryz.call112, fun args m v m' hp G ρ w args' hc hr => pBFree_ok hp hc hr⟩
    rcases set_case h (by decide) with ⟨rfl, e⟩ | h
    · cases e
      exact ⟨Tryz.call141, fun args m v m' hp G ρ w args' hc hr => pBAlloc_ok hp hc hr⟩
    rcases set_case h (by decide) with ⟨rfl, e⟩ | h
    · cases e
      exact ⟨Tryz.call151, fun args m v m' hp G ρ w args' hc hr => pBLoad_ok hp hc hr⟩
    rcases set_case h (by decide) with ⟨rfl, e⟩ | h
    · cases e
    rcases set_case h (by decide) with ⟨rfl, e⟩ | h
    · cases e
      exact ⟨Tryz.call129, fun args m v m' hp G ρ w args' hc hr => pOn_ok hp hc hr⟩
    rcases set_case h (by decide) with ⟨rfl, e⟩ | h
    · cases e
      exact ⟨Tryz.call61, fun args m v m' hp G ρ w args' hc hr => pIs_ok hp hc hr⟩
    rcases set_case h (by decide) with ⟨rfl, e⟩ | h
    · cases e
      exact ⟨Tryz.call13, fun args m v m' hp G ρ w args' hc hr => pNo_ok hp hc hr⟩
    cases h
  acc := fun f p h => by
    have h : prT.get? f = some (.acc p) := h
    rcases set_case h (by decide) with ⟨rfl, e⟩ | h
    · cases e
    rcases set_case h (by decide) with ⟨rfl, e⟩ | h
    · cases e
    rcases set_case h (by decide) with ⟨rfl, e⟩ | h
    · cases e
    rcases set_case h (by decide) with ⟨rfl, e⟩ | h
    · cases e
    rcases set_case h (by decide) with ⟨rfl, e⟩ | h
    · cases e
    rcases set_case h (by decide) with ⟨rfl, e⟩ | h
    · cases e
      exact ⟨Tryz.call91, fun args m op res outs hi hp ha G hf ρ w args' hc hr => acc_free hc.hand.1 hi hp ha hf hc hr⟩
    rcases set_case h (by decide) with ⟨rfl, e⟩ | h
    · cases e
      exact ⟨Tryz.call73, fun args m op res outs hi hp ha G hf ρ w args' hc hr => acc_alloc hc.hand.1 hi hp ha hf hc hr⟩
    rcases set_case h (by decide) with ⟨rfl, e⟩ | h
    · cases e
      exact ⟨Tryz.call125, fun args m op res outs hi hp ha G hf ρ w args' hc hr => acc_cas hc.hand.1 hi hp ha hf hc hr⟩
    rcases set_case h (by decide) with ⟨rfl, e⟩ | h
    · cases e
      exact ⟨Tryz.call75, fun args m op res outs hi hp ha G hf ρ w args' hc hr => acc_store hc.hand.1 hi hp ha hf hc hr⟩
    rcases set_case h (by decide) with ⟨rfl, e⟩ | h
    · cases e
      exact ⟨Tryz.call89, fun args m op res outs hi hp ha G hf ρ w args' hc hr => acc_load hc.hand.1 hi hp ha hf hc hr⟩
    rcases set_case h (by decide) with ⟨rfl, e⟩ | h
    · cases e
    rcases set_case h (by decide) with ⟨rfl, e⟩ | h
    · cases e
    rcases set_case h (by decide) with ⟨rfl, e⟩ | h
    · cases e
    rcases set_case h (by decide) with ⟨rfl, e⟩ | h
    · cases e
    rcases set_case h (by decide) with ⟨rfl, e⟩ | h
    · cases e
    rcases set_case h (by decide) with ⟨rfl, e⟩ | h
    · cases e
    rcases set_case h (by decide) with ⟨rfl, e⟩ | h
    · cases e
    rcases set_case h (by decide) with ⟨rfl, e⟩ | h
    · cases e
    rcases set_case h (by decide) with ⟨rfl, e⟩ | h
    · cases e
    cases h
  run := fun f h => by
    have h : prT.get? f = some .run := h
    rcases set_case h (by decide) with ⟨rfl, e⟩ | h
    · cases e
    rcases set_case h (by decide) with ⟨rfl, e⟩ | h
    · cases e
    rcases set_case h (by decide) with ⟨rfl, e⟩ | h
    · cases e
    rcases set_case h (by decide) with ⟨rfl, e⟩ | h
    · cases e
    rcases set_case h (by decide) with ⟨rfl, e⟩ | h
    · cases e
    rcases set_case h (by decide) with ⟨rfl, e⟩ | h
    · cases e
    rcases set_case h (by decide) with ⟨rfl, e⟩ | h
    · cases e
    rcases set_case h (by decide) with ⟨rfl, e⟩ | h
    · cases e
    rcases set_case h (by decide) with ⟨rfl, e⟩ | h
    · cases e
    rcases set_case h (by decide) with ⟨rfl, e⟩ | h
    · cases e
    rcases set_case h (by decide) with ⟨rfl, e⟩ | h
    · cases e
    rcases set_case h (by decide) with ⟨rfl, e⟩ | h
    · cases e
    rcases set_case h (by decide) with ⟨rfl, e⟩ | h
    · cases e
    rcases set_case h (by decide) with ⟨rfl, e⟩ | h
    · cases e
    rcases set_case h (by decide) with ⟨rfl, e⟩ | h
    · cases e
    rcases set_case h (by decide) with ⟨rfl, e⟩ | h
    · cases e
      exact ⟨Tryz.call156, fun rec' hr hg args m outs h G ρ w args' hc hra => run_ok (env_ok hint) (env_fn hint) rfl (fun _ _ => rfl) hr hg h hc hra⟩
    rcases set_case h (by decide) with ⟨rfl, e⟩ | h
    · cases e
    rcases set_case h (by decide) with ⟨rfl, e⟩ | h
    · cases e
    rcases set_case h (by decide) with ⟨rfl, e⟩ | h
    · cases e
    cases h
theorem law_run {F : FuncId} {hint : Nat → List Nat} {args : List Value} (h : trueB (callX (env hint) 1000 F args m0) = true) {args' : List Value} (hr : RelL (fun _ => none) args args') (w : World) (hg : Handle w) :
    Calls Tryz.prog F ⟨args'⟩ w fun e w' => e = .returned (.bool true) ∧ Below w.heap.size w w' :=
  start_run (env_ok hint) (cmp_ok hint) (by kernel_rfl) (env_fn hint) (prims_ok hint) h hr w ⟨hg, fun _ h => by cases h⟩
theorem val_run {F : FuncId} {hint : Nat → List Nat} {args : List Value} {V : Value} (h : valB V (callX (env hint) 1000 F args m0) = true) (hV : flat 20 V = true) {args' : List Value} (hr : RelL (fun _ => none) args args') (w : World) (hg : Handle w) :
    Calls Tryz.prog F ⟨args'⟩ w fun e w' => e = .returned V ∧ Below w.heap.size w w' :=
  start_val (env_ok hint) (cmp_ok hint) (by kernel_rfl) (env_fn hint) (prims_ok hint) h hV hr w ⟨hg, fun _ h => by cases h⟩
theorem alive_run {F : FuncId} {hint : Nat → List Nat} (h : trueB (callX (env hint) 1000 F [] m0) = true) (w : World) (hg : Handle w) :
    Calls Tryz.prog F #[] w fun e w' => e = .returned (.bool true) ∧ Below w.heap.size w w' := law_run h (RelL.nil _) w hg

theorem meth_atT (hint : Nat → List Nat) : ∀ t s f, (envT hint).meth t s = some f → ∀ (v : Value) (w : World), (method (Tryz.prog.types.size + Made.depth) t v s).run Tryz.prog w = .ok (f, v) w := by
    intro t s f h v w
    have h : methT t s = some f := h
    unfold methT at h
    rw [bif_eq] at h
    split at h
    · rename_i e
      rw [Bool.and_eq_true, decide_eq_true_eq] at e
      obtain rfl := Nat.eq_of_beq_eq_true e.1
      obtain rfl := e.2
      cases h
      show _ = _
      kernel_rfl
    rw [bif_eq] at h
    split at h
    · rename_i e
      rw [Bool.and_eq_true, decide_eq_true_eq] at e
      obtain rfl := Nat.eq_of_beq_eq_true e.1
      obtain rfl := e.2
      cases h
      show _ = _
      kernel_rfl
    rw [bif_eq] at h
    split at h
    · rename_i e
      rw [Bool.and_eq_true, decide_eq_true_eq] at e
      obtain rfl := Nat.eq_of_beq_eq_true e.1
      obtain rfl := e.2
      cases h
      show _ = _
      kernel_rfl
    rw [bif_eq] at h
    split at h
    · rename_i e
      rw [Bool.and_eq_true, decide_eq_true_eq] at e
      obtain rfl := Nat.eq_of_beq_eq_true e.1
      obtain rfl := e.2
      cases h
      show _ = _
      kernel_rfl
    rw [bif_eq] at h
    split at h
    · rename_i e
      rw [Bool.and_eq_true, decide_eq_true_eq] at e
      obtain rfl := Nat.eq_of_beq_eq_true e.1
      obtain rfl := e.2
      cases h
      show _ = _
      kernel_rfl
    rw [bif_eq] at h
    split at h
    · rename_i e
      rw [Bool.and_eq_true, decide_eq_true_eq] at e
      obtain rfl := Nat.eq_of_beq_eq_true e.1
      obtain rfl := e.2
      cases h
      show _ = _
      kernel_rfl
    rw [bif_eq] at h
    split at h
    · rename_i e
      rw [Bool.and_eq_true, decide_eq_true_eq] at e
      obtain rfl := Nat.eq_of_beq_eq_true e.1
      obtain rfl := e.2
      cases h
      show _ = _
      kernel_rfl
    rw [bif_eq] at h
    split at h
    · rename_i e
      rw [Bool.and_eq_true, decide_eq_true_eq] at e
      obtain rfl := Nat.eq_of_beq_eq_true e.1
      obtain rfl := e.2
      cases h
      show _ = _
      kernel_rfl
    rw [bif_eq] at h
    split at h
    · rename_i e
      rw [Bool.and_eq_true, decide_eq_true_eq] at e
      obtain rfl := Nat.eq_of_beq_eq_true e.1
      obtain rfl := e.2
      cases h
      show _ = _
      kernel_rfl
    rw [bif_eq] at h
    split at h
    · rename_i e
      rw [Bool.and_eq_true, decide_eq_true_eq] at e
      obtain rfl := Nat.eq_of_beq_eq_true e.1
      obtain rfl := e.2
      cases h
      show _ = _
      kernel_rfl
    rw [bif_eq] at h
    split at h
    · rename_i e
      rw [Bool.and_eq_true, decide_eq_true_eq] at e
      obtain rfl := Nat.eq_of_beq_eq_true e.1
      obtain rfl := e.2
      cases h
      show _ = _
      kernel_rfl
    rw [bif_eq] at h
    split at h
    · rename_i e
      rw [Bool.and_eq_true, decide_eq_true_eq] at e
      obtain rfl := Nat.eq_of_beq_eq_true e.1
      obtain rfl := e.2
      cases h
      show _ = _
      kernel_rfl
    rw [bif_eq] at h
    split at h
    · rename_i e
      rw [Bool.and_eq_true, decide_eq_true_eq] at e
      obtain rfl := Nat.eq_of_beq_eq_true e.1
      obtain rfl := e.2
      cases h
      show _ = _
      kernel_rfl
    rw [bif_eq] at h
    split at h
    · rename_i e
      rw [Bool.and_eq_true, decide_eq_true_eq] at e
      obtain rfl := Nat.eq_of_beq_eq_true e.1
      obtain rfl := e.2
      cases h
      show _ = _
      kernel_rfl
    rw [bif_eq] at h
    split at h
    · rename_i e
      rw [Bool.and_eq_true, decide_eq_true_eq] at e
      obtain rfl := Nat.eq_of_beq_eq_true e.1
      obtain rfl := e.2
      cases h
      show _ = _
      kernel_rfl
    rw [bif_eq] at h
    split at h
    · rename_i e
      rw [Bool.and_eq_true, decide_eq_true_eq] at e
      obtain rfl := Nat.eq_of_beq_eq_true e.1
      obtain rfl := e.2
      cases h
      show _ = _
      kernel_rfl
    rw [bif_eq] at h
    split at h
    · rename_i e
      rw [Bool.and_eq_true, decide_eq_true_eq] at e
      obtain rfl := Nat.eq_of_beq_eq_true e.1
      obtain rfl := e.2
      cases h
      show _ = _
      kernel_rfl
    rw [bif_eq] at h
    split at h
    · rename_i e
      rw [Bool.and_eq_true, decide_eq_true_eq] at e
      obtain rfl := Nat.eq_of_beq_eq_true e.1
      obtain rfl := e.2
      cases h
      show _ = _
      kernel_rfl
    rw [bif_eq] at h
    split at h
    · rename_i e
      rw [Bool.and_eq_true, decide_eq_true_eq] at e
      obtain rfl := Nat.eq_of_beq_eq_true e.1
      obtain rfl := e.2
      cases h
      show _ = _
      kernel_rfl
    rw [bif_eq] at h
    split at h
    · rename_i e
      rw [Bool.and_eq_true, decide_eq_true_eq] at e
      obtain rfl := Nat.eq_of_beq_eq_true e.1
      obtain rfl := e.2
      cases h
      show _ = _
      kernel_rfl
    rw [bif_eq] at h
    split at h
    · rename_i e
      rw [Bool.and_eq_true, decide_eq_true_eq] at e
      obtain rfl := Nat.eq_of_beq_eq_true e.1
      obtain rfl := e.2
      cases h
      show _ = _
      kernel_rfl
    cases h
theorem ahead_atT (hint : Nat → List Nat) : ∀ t s f, (envT hint).meth t s = some f → ∀ (a : Addr) (w : World), (nilAhead (Tryz.prog.types.size + Made.depth) t (.pointer (some a)) s).run Tryz.prog w = .ok (some false) w := by
    intro t s f h a w
    have h : methT t s = some f := h
    unfold methT at h
    rw [bif_eq] at h
    split at h
    · rename_i e
      rw [Bool.and_eq_true, decide_eq_true_eq] at e
      obtain rfl := Nat.eq_of_beq_eq_true e.1
      obtain rfl := e.2
      cases h
      show _ = _
      kernel_rfl
    rw [bif_eq] at h
    split at h
    · rename_i e
      rw [Bool.and_eq_true, decide_eq_true_eq] at e
      obtain rfl := Nat.eq_of_beq_eq_true e.1
      obtain rfl := e.2
      cases h
      show _ = _
      kernel_rfl
    rw [bif_eq] at h
    split at h
    · rename_i e
      rw [Bool.and_eq_true, decide_eq_true_eq] at e
      obtain rfl := Nat.eq_of_beq_eq_true e.1
      obtain rfl := e.2
      cases h
      show _ = _
      kernel_rfl
    rw [bif_eq] at h
    split at h
    · rename_i e
      rw [Bool.and_eq_true, decide_eq_true_eq] at e
      obtain rfl := Nat.eq_of_beq_eq_true e.1
      obtain rfl := e.2
      cases h
      show _ = _
      kernel_rfl
    rw [bif_eq] at h
    split at h
    · rename_i e
      rw [Bool.and_eq_true, decide_eq_true_eq] at e
      obtain rfl := Nat.eq_of_beq_eq_true e.1
      obtain rfl := e.2
      cases h
      show _ = _
      kernel_rfl
    rw [bif_eq] at h
    split at h
    · rename_i e
      rw [Bool.and_eq_true, decide_eq_true_eq] at e
      obtain rfl := Nat.eq_of_beq_eq_true e.1
      obtain rfl := e.2
      cases h
      show _ = _
      kernel_rfl
    rw [bif_eq] at h
    split at h
    · rename_i e
      rw [Bool.and_eq_true, decide_eq_true_eq] at e
      obtain rfl := Nat.eq_of_beq_eq_true e.1
      obtain rfl := e.2
      cases h
      show _ = _
      kernel_rfl
    rw [bif_eq] at h
    split at h
    · rename_i e
      rw [Bool.and_eq_true, decide_eq_true_eq] at e
      obtain rfl := Nat.eq_of_beq_eq_true e.1
      obtain rfl := e.2
      cases h
      show _ = _
      kernel_rfl
    rw [bif_eq] at h
    split at h
    · rename_i e
      rw [Bool.and_eq_true, decide_eq_true_eq] at e
      obtain rfl := Nat.eq_of_beq_eq_true e.1
      obtain rfl := e.2
      cases h
      show _ = _
      kernel_rfl
    rw [bif_eq] at h
    split at h
    · rename_i e
      rw [Bool.and_eq_true, decide_eq_true_eq] at e
      obtain rfl := Nat.eq_of_beq_eq_true e.1
      obtain rfl := e.2
      cases h
      show _ = _
      kernel_rfl
    rw [bif_eq] at h
    split at h
    · rename_i e
      rw [Bool.and_eq_true, decide_eq_true_eq] at e
      obtain rfl := Nat.eq_of_beq_eq_true e.1
      obtain rfl := e.2
      cases h
      show _ = _
      kernel_rfl
    rw [bif_eq] at h
    split at h
    · rename_i e
      rw [Bool.and_eq_true, decide_eq_true_eq] at e
      obtain rfl := Nat.eq_of_beq_eq_true e.1
      obtain rfl := e.2
      cases h
      show _ = _
      kernel_rfl
    rw [bif_eq] at h
    split at h
    · rename_i e
      rw [Bool.and_eq_true, decide_eq_true_eq] at e
      obtain rfl := Nat.eq_of_beq_eq_true e.1
      obtain rfl := e.2
      cases h
      show _ = _
      kernel_rfl
    rw [bif_eq] at h
    split at h
    · rename_i e
      rw [Bool.and_eq_true, decide_eq_true_eq] at e
      obtain rfl := Nat.eq_of_beq_eq_true e.1
      obtain rfl := e.2
      cases h
      show _ = _
      kernel_rfl
    rw [bif_eq] at h
    split at h
    · rename_i e
      rw [Bool.and_eq_true, decide_eq_true_eq] at e
      obtain rfl := Nat.eq_of_beq_eq_true e.1
      obtain rfl := e.2
      cases h
      show _ = _
      kernel_rfl
    rw [bif_eq] at h
    split at h
    · rename_i e
      rw [Bool.and_eq_true, decide_eq_true_eq] at e
      obtain rfl := Nat.eq_of_beq_eq_true e.1
      obtain rfl := e.2
      cases h
      show _ = _
      kernel_rfl
    rw [bif_eq] at h
    split at h
    · rename_i e
      rw [Bool.and_eq_true, decide_eq_true_eq] at e
      obtain rfl := Nat.eq_of_beq_eq_true e.1
      obtain rfl := e.2
      cases h
      show _ = _
      kernel_rfl
    rw [bif_eq] at h
    split at h
    · rename_i e
      rw [Bool.and_eq_true, decide_eq_true_eq] at e
      obtain rfl := Nat.eq_of_beq_eq_true e.1
      obtain rfl := e.2
      cases h
      show _ = _
      kernel_rfl
    rw [bif_eq] at h
    split at h
    · rename_i e
      rw [Bool.and_eq_true, decide_eq_true_eq] at e
      obtain rfl := Nat.eq_of_beq_eq_true e.1
      obtain rfl := e.2
      cases h
      show _ = _
      kernel_rfl
    rw [bif_eq] at h
    split at h
    · rename_i e
      rw [Bool.and_eq_true, decide_eq_true_eq] at e
      obtain rfl := Nat.eq_of_beq_eq_true e.1
      obtain rfl := e.2
      cases h
      show _ = _
      kernel_rfl
    rw [bif_eq] at h
    split at h
    · rename_i e
      rw [Bool.and_eq_true, decide_eq_true_eq] at e
      obtain rfl := Nat.eq_of_beq_eq_true e.1
      obtain rfl := e.2
      cases h
      show _ = _
      kernel_rfl
    cases h
theorem env_okT (hint : Nat → List Nat) : EnvOk Tryz.prog (envT hint) := ⟨fun _ _ h => (ty_at h).1, fun _ _ _ h hz => zeroB_ok (ty_at h).2 _ hz, fun _ _ h => (fn_at h).1, fun _ _ h => (fn_at h).2.1, meth_atT hint, ahead_atT hint⟩
theorem env_fnT (hint : Nat → List Nat) : ∀ f fn, (envT hint).fn f = some fn → FnOk fn := fun _ _ h => fnB_ok (fn_at h).2.2
theorem cmp_okT (hint : Nat → List Nat) : CmpOk Tryz.prog (envT hint) := by
  constructor
  · intro t h
    have h : cmpT t = true := h
    unfold cmpT at h
    split at h
    · show _ = _
      kernel_rfl
    · show _ = _
      kernel_rfl
    · show _ = _
      kernel_rfl
    · show _ = _
      kernel_rfl
    · cases h
  · intro t h
    have h : cmpT t = true := h
    unfold cmpT at h
    split at h
    · show _ = _
      kernel_rfl
    · show _ = _
      kernel_rfl
    · show _ = _
      kernel_rfl
    · show _ = _
      kernel_rfl
    · cases h
theorem prims_okT (hint : Nat → List Nat) : PrimsOk Tryz.prog (envT hint) where
  grow := fun f p h args m v m' hp hm => by
    have h : prTT.get? f = some (.fn p) := h
    rcases set_case h (by decide) with ⟨rfl, e⟩ | h
    · cases e
      exact pTall_grow hp hm
    rcases set_case h (by decide) with ⟨rfl, e⟩ | h
    · cases e
      exact pRank_grow hp hm
    rcases set_case h (by decide) with ⟨rfl, e⟩ | h
    · cases e
      exact pStripe_grow hp hm
    rcases set_case h (by decide) with ⟨rfl, e⟩ | h
    · cases e
      exact pBLive_grow hp hm
    rcases set_case h (by decide) with ⟨rfl, e⟩ | h
    · cases e
      exact pWrites_grow hp hm
    rcases set_case h (by decide) with ⟨rfl, e⟩ | h
    · cases e
      exact pLeft_grow hp hm
    rcases set_case h (by decide) with ⟨rfl, e⟩ | h
    · cases e
    rcases set_case h (by decide) with ⟨rfl, e⟩ | h
    · cases e
    rcases set_case h (by decide) with ⟨rfl, e⟩ | h
    · cases e
    rcases set_case h (by decide) with ⟨rfl, e⟩ | h
    · cases e
    rcases set_case h (by decide) with ⟨rfl, e⟩ | h
    · cases e
    rcases set_case h (by decide) with ⟨rfl, e⟩ | h
    · cases e
      exact pBCAS_grow hp hm
    rcases set_case h (by decide) with ⟨rfl, e⟩ | h
    · cases e
      exact pBStore_grow hp hm
    rcases set_case h (by decide) with ⟨rfl, e⟩ | h
    · cases e
      exact pBFree_grow hp hm
    rcases set_case h (by decide) with ⟨rfl, e⟩ | h
    · cases e
      exact pBAlloc_grow hp hm
    rcases set_case h (by decide) with ⟨rfl, e⟩ | h
    · cases e
      exact pBLoad_grow hp hm
    rcases set_case h (by decide) with ⟨rfl, e⟩ | h
    · cases e
    rcases set_case h (by decide) with ⟨rfl, e⟩ | h
    · cases e
      exact pOn_grow hp hm
    rcases set_case h (by decide) with ⟨rfl, e⟩ | h
    · cases e
      exact pIs_grow hp hm
    rcases set_case h (by decide) with ⟨rfl, e⟩ | h
    · cases e
      exact pNo_grow hp hm
    cases h
  fn := fun f p h => by
    have h : prTT.get? f = some (.fn p) := h
    rcases set_case h (by decide) with ⟨rfl, e⟩ | h
    · cases e
      exact ⟨Tryz.call85, fun args m v m' hp G ρ w args' hc hr => pTall_ok (E := envT hint) rfl hp hc hr⟩
    rcases set_case h (by decide) with ⟨rfl, e⟩ | h
    · cases e
      exact ⟨Tryz.call190, fun args m v m' hp G ρ w args' hc hr => pRank_ok hp hc hr⟩
    rcases set_case h (by decide) with ⟨rfl, e⟩ | h
    · cases e
      exact ⟨Tryz.call149, fun args m v m' hp G ρ w args' hc hr => pStripe_ok hp hc hr⟩
    rcases set_case h (by decide) with ⟨rfl, e⟩ | h
    · cases e
      exact ⟨Tryz.call106, fun args m v m' hp G ρ w args' hc hr => pBLive_ok (E := envT hint) (by kernel_rfl) hp hc hr⟩
    rcases set_case h (by decide) with ⟨rfl, e⟩ | h
    · cases e
      exact ⟨Tryz.call274, fun args m v m' hp G ρ w args' hc hr => pWrites_ok (E := envT hint) (by kernel_rfl) hp hc hr⟩
    rcases set_case h (by decide) with ⟨rfl, e⟩ | h
    · cases e
      exact ⟨Tryz.call116, fun args m v m' hp G ρ w args' hc hr => pLeft_ok hp hc hr⟩
    rcases set_case h (by decide) with ⟨rfl, e⟩ | h
    · cases e
    rcases set_case h (by decide) with ⟨rfl, e⟩ | h
    · cases e
    rcases set_case h (by decide) with ⟨rfl, e⟩ | h
    · cases e
    rcases set_case h (by decide) with ⟨rfl, e⟩ | h
    · cases e
    rcases set_case h (by decide) with ⟨rfl, e⟩ | h
    · cases e
    rcases set_case h (by decide) with ⟨rfl, e⟩ | h
    · cases e
      exact ⟨Tryz.call207, fun args m v m' hp G ρ w args' hc hr => pBCAS_ok hp hc hr⟩
    rcases set_case h (by decide) with ⟨rfl, e⟩ | h
    · cases e
      exact ⟨Tryz.call145, fun args m v m' hp G ρ w args' hc hr => pBStore_ok hp hc hr⟩
    rcases set_case h (by decide) with ⟨rfl, e⟩ | h
    · cases e
      exact ⟨Tryz.call112, fun args m v m' hp G ρ w args' hc hr => pBFree_ok hp hc hr⟩
    rcases set_case h (by decide) with ⟨rfl, e⟩ | h
    · cases e
      exact ⟨Tryz.call141, fun args m v m' hp G ρ w args' hc hr => pBAlloc_ok hp hc hr⟩
    rcases set_case h (by decide) with ⟨rfl, e⟩ | h
    · cases e
      exact ⟨Tryz.call151, fun args m v m' hp G ρ w args' hc hr => pBLoad_ok hp hc hr⟩
    rcases set_case h (by decide) with ⟨rfl, e⟩ | h
    · cases e
    rcases set_case h (by decide) with ⟨rfl, e⟩ | h
    · cases e
      exact ⟨Tryz.call129, fun args m v m' hp G ρ w args' hc hr => pOn_ok hp hc hr⟩
    rcases set_case h (by decide) with ⟨rfl, e⟩ | h
    · cases e
      exact ⟨Tryz.call61, fun args m v m' hp G ρ w args' hc hr => pIs_ok hp hc hr⟩
    rcases set_case h (by decide) with ⟨rfl, e⟩ | h
    · cases e
      exact ⟨Tryz.call13, fun args m v m' hp G ρ w args' hc hr => pNo_ok hp hc hr⟩
    cases h
  acc := fun f p h => by
    have h : prTT.get? f = some (.acc p) := h
    rcases set_case h (by decide) with ⟨rfl, e⟩ | h
    · cases e
    rcases set_case h (by decide) with ⟨rfl, e⟩ | h
    · cases e
    rcases set_case h (by decide) with ⟨rfl, e⟩ | h
    · cases e
    rcases set_case h (by decide) with ⟨rfl, e⟩ | h
    · cases e
    rcases set_case h (by decide) with ⟨rfl, e⟩ | h
    · cases e
    rcases set_case h (by decide) with ⟨rfl, e⟩ | h
    · cases e
    rcases set_case h (by decide) with ⟨rfl, e⟩ | h
    · cases e
      exact ⟨Tryz.call91, fun args m op res outs hi hp ha G hf ρ w args' hc hr => acc_free hc.hand.1 hi hp ha hf hc hr⟩
    rcases set_case h (by decide) with ⟨rfl, e⟩ | h
    · cases e
      exact ⟨Tryz.call73, fun args m op res outs hi hp ha G hf ρ w args' hc hr => acc_alloc hc.hand.1 hi hp ha hf hc hr⟩
    rcases set_case h (by decide) with ⟨rfl, e⟩ | h
    · cases e
      exact ⟨Tryz.call125, fun args m op res outs hi hp ha G hf ρ w args' hc hr => acc_cas hc.hand.1 hi hp ha hf hc hr⟩
    rcases set_case h (by decide) with ⟨rfl, e⟩ | h
    · cases e
      exact ⟨Tryz.call75, fun args m op res outs hi hp ha G hf ρ w args' hc hr => acc_store hc.hand.1 hi hp ha hf hc hr⟩
    rcases set_case h (by decide) with ⟨rfl, e⟩ | h
    · cases e
      exact ⟨Tryz.call89, fun args m op res outs hi hp ha G hf ρ w args' hc hr => acc_load hc.hand.1 hi hp ha hf hc hr⟩
    rcases set_case h (by decide) with ⟨rfl, e⟩ | h
    · cases e
    rcases set_case h (by decide) with ⟨rfl, e⟩ | h
    · cases e
    rcases set_case h (by decide) with ⟨rfl, e⟩ | h
    · cases e
    rcases set_case h (by decide) with ⟨rfl, e⟩ | h
    · cases e
    rcases set_case h (by decide) with ⟨rfl, e⟩ | h
    · cases e
    rcases set_case h (by decide) with ⟨rfl, e⟩ | h
    · cases e
    rcases set_case h (by decide) with ⟨rfl, e⟩ | h
    · cases e
    rcases set_case h (by decide) with ⟨rfl, e⟩ | h
    · cases e
    rcases set_case h (by decide) with ⟨rfl, e⟩ | h
    · cases e
    cases h
  run := fun f h => by
    have h : prTT.get? f = some .run := h
    rcases set_case h (by decide) with ⟨rfl, e⟩ | h
    · cases e
    rcases set_case h (by decide) with ⟨rfl, e⟩ | h
    · cases e
    rcases set_case h (by decide) with ⟨rfl, e⟩ | h
    · cases e
    rcases set_case h (by decide) with ⟨rfl, e⟩ | h
    · cases e
    rcases set_case h (by decide) with ⟨rfl, e⟩ | h
    · cases e
    rcases set_case h (by decide) with ⟨rfl, e⟩ | h
    · cases e
    rcases set_case h (by decide) with ⟨rfl, e⟩ | h
    · cases e
    rcases set_case h (by decide) with ⟨rfl, e⟩ | h
    · cases e
    rcases set_case h (by decide) with ⟨rfl, e⟩ | h
    · cases e
    rcases set_case h (by decide) with ⟨rfl, e⟩ | h
    · cases e
    rcases set_case h (by decide) with ⟨rfl, e⟩ | h
    · cases e
    rcases set_case h (by decide) with ⟨rfl, e⟩ | h
    · cases e
    rcases set_case h (by decide) with ⟨rfl, e⟩ | h
    · cases e
    rcases set_case h (by decide) with ⟨rfl, e⟩ | h
    · cases e
    rcases set_case h (by decide) with ⟨rfl, e⟩ | h
    · cases e
    rcases set_case h (by decide) with ⟨rfl, e⟩ | h
    · cases e
    rcases set_case h (by decide) with ⟨rfl, e⟩ | h
    · cases e
      exact ⟨Tryz.call156, fun rec' hr hg args m outs h G ρ w args' hc hra => run_ok (env_okT hint) (env_fnT hint) rfl (fun _ _ => rfl) hr hg h hc hra⟩
    rcases set_case h (by decide) with ⟨rfl, e⟩ | h
    · cases e
    rcases set_case h (by decide) with ⟨rfl, e⟩ | h
    · cases e
    rcases set_case h (by decide) with ⟨rfl, e⟩ | h
    · cases e
    cases h
theorem law_runT {F : FuncId} {hint : Nat → List Nat} {args : List Value} (h : trueB (callX (envT hint) 1000 F args m0) = true) {args' : List Value} (hr : RelL (fun _ => none) args args') (w : World) (hg : Handle w) (hT : TabG 0 w) :
    Calls Tryz.prog F ⟨args'⟩ w fun e w' => e = .returned (.bool true) ∧ Below w.heap.size w w' :=
  start_run (env_okT hint) (cmp_okT hint) (by kernel_rfl) (env_fnT hint) (prims_okT hint) h hr w ⟨hg, fun _ h => by cases h; exact hT⟩
theorem val_runT {F : FuncId} {hint : Nat → List Nat} {args : List Value} {V : Value} (h : valB V (callX (envT hint) 1000 F args m0) = true) (hV : flat 20 V = true) {args' : List Value} (hr : RelL (fun _ => none) args args') (w : World) (hg : Handle w) (hT : TabG 0 w) :
    Calls Tryz.prog F ⟨args'⟩ w fun e w' => e = .returned V ∧ Below w.heap.size w w' :=
  start_val (env_okT hint) (cmp_okT hint) (by kernel_rfl) (env_fnT hint) (prims_okT hint) h hV hr w ⟨hg, fun _ h => by cases h; exact hT⟩
theorem alive_runT {F : FuncId} {hint : Nat → List Nat} (h : trueB (callX (envT hint) 1000 F [] m0) = true) (w : World) (hg : Handle w) (hT : TabG 0 w) :
    Calls Tryz.prog F #[] w fun e w' => e = .returned (.bool true) ∧ Below w.heap.size w w' := law_runT h (RelL.nil _) w hg hT

end Go.Proofs.YtgmdbfackbdnlaaGreatDoor

/-
  A RECKONER OF CLOSED CALLS: this program's tables. No condition.
-/
import Derived.Test.YtfpioijfocmfcaaGreatDoorEvTab
import Derived.Test.YtfpioijfocmfcaaGreatDoorEvJoin
import Derived.Test.YtfpioijfocmfcaaGreatDoorShelf
import Derived.Test.YtfpioijfocmfcaaGreatDoorProg
set_option maxRecDepth 100000
namespace Go.Proofs.YtfpioijfocmfcaaGreatDoor.Ev
open Go
noncomputable def ty0 : TRow := ⟨0, Go.TypeDesc.tuple #[], Tryz.t0⟩
noncomputable def ty2 : TRow := ⟨2, Go.TypeDesc.int Go.IntKind.i64, Tryz.t2⟩
noncomputable def ty3 : TRow := ⟨3, Go.TypeDesc.int Go.IntKind.i64, Tryz.t3⟩
noncomputable def ty4 : TRow := ⟨4, Go.TypeDesc.bool, Tryz.t4⟩
noncomputable def ty5 : TRow := ⟨5, Go.TypeDesc.int Go.IntKind.u8, Tryz.t5⟩
noncomputable def ty6 : TRow := ⟨6, Go.TypeDesc.int Go.IntKind.u8, Tryz.t6⟩
noncomputable def ty7 : TRow := ⟨7, Go.TypeDesc.struct #[{ name := "x", type := 2, offset := 0, embedded := Bool.false, tag := "", pkgPath := "runtime", byteOffset := 0 }, { name := "y", type := 3, offset := 1, embedded := Bool.false, tag := "", pkgPath := "runtime", byteOffset := 8 }, { name := "signed", type := 4, offset := 2, embedded := Bool.false, tag := "", pkgPath := "runtime", byteOffset := 16 }, { name := "code", type := 6, offset := 3, embedded := Bool.false, tag := "", pkgPath := "runtime", byteOffset := 17 }], Tryz.t7⟩
noncomputable def ty8 : TRow := ⟨8, Go.TypeDesc.struct #[{ name := "x", type := 2, offset := 0, embedded := Bool.false, tag := "", pkgPath := "runtime", byteOffset := 0 }, { name := "y", type := 3, offset := 1, embedded := Bool.false, tag := "", pkgPath := "runtime", byteOffset := 8 }, { name := "signed", type := 4, offset := 2, embedded := Bool.false, tag := "", pkgPath := "runtime", byteOffset := 16 }, { name := "code", type := 6, offset := 3, embedded := Bool.false, tag := "", pkgPath := "runtime", byteOffset := 17 }], Tryz.t8⟩
noncomputable def ty9 : TRow := ⟨9, Go.TypeDesc.string, Tryz.t9⟩
noncomputable def ty10 : TRow := ⟨10, Go.TypeDesc.string, Tryz.t10⟩
noncomputable def ty11 : TRow := ⟨11, Go.TypeDesc.string, Tryz.t11⟩
noncomputable def ty12 : TRow := ⟨12, Go.TypeDesc.int Go.IntKind.u64, Tryz.t12⟩
noncomputable def ty13 : TRow := ⟨13, Go.TypeDesc.struct #[{ name := "msg", type := 9, offset := 0, embedded := Bool.false, tag := "", pkgPath := "runtime", byteOffset := 0 }, { name := "addr", type := 12, offset := 1, embedded := Bool.false, tag := "", pkgPath := "runtime", byteOffset := 16 }], Tryz.t13⟩
noncomputable def ty14 : TRow := ⟨14, Go.TypeDesc.struct #[{ name := "msg", type := 9, offset := 0, embedded := Bool.false, tag := "", pkgPath := "runtime", byteOffset := 0 }, { name := "addr", type := 12, offset := 1, embedded := Bool.false, tag := "", pkgPath := "runtime", byteOffset := 16 }], Tryz.t14⟩
noncomputable def ty15 : TRow := ⟨15, Go.TypeDesc.pointer 193, Tryz.t15⟩
noncomputable def ty16 : TRow := ⟨16, Go.TypeDesc.pointer 196, Tryz.t16⟩
noncomputable def ty17 : TRow := ⟨17, Go.TypeDesc.pointer 204, Tryz.t17⟩
noncomputable def ty18 : TRow := ⟨18, Go.TypeDesc.struct #[{ name := "typ", type := 17, offset := 0, embedded := Bool.false, tag := "", pkgPath := "internal/runtime/maps", byteOffset := 0 }], Tryz.t18⟩
noncomputable def ty19 : TRow := ⟨19, Go.TypeDesc.struct #[{ name := "typ", type := 17, offset := 0, embedded := Bool.false, tag := "", pkgPath := "internal/runtime/maps", byteOffset := 0 }], Tryz.t19⟩
noncomputable def ty20 : TRow := ⟨20, Go.TypeDesc.interface #[], Tryz.t20⟩
noncomputable def ty21 : TRow := ⟨21, Go.TypeDesc.int Go.IntKind.i32, Tryz.t21⟩
noncomputable def ty22 : TRow := ⟨22, Go.TypeDesc.int Go.IntKind.u64, Tryz.t22⟩
noncomputable def ty23 : TRow := ⟨23, Go.TypeDesc.struct #[{ name := "Chain", type := 22, offset := 0, embedded := Bool.false, tag := "", pkgPath := "", byteOffset := 0 }, { name := "Floor", type := 22, offset := 1, embedded := Bool.false, tag := "", pkgPath := "", byteOffset := 8 }, { name := "Tail", type := 22, offset := 2, embedded := Bool.false, tag := "", pkgPath := "", byteOffset := 16 }], Tryz.t23⟩
noncomputable def ty24 : TRow := ⟨24, Go.TypeDesc.struct #[{ name := "Chain", type := 22, offset := 0, embedded := Bool.false, tag := "", pkgPath := "", byteOffset := 0 }, { name := "Floor", type := 22, offset := 1, embedded := Bool.false, tag := "", pkgPath := "", byteOffset := 8 }, { name := "Tail", type := 22, offset := 2, embedded := Bool.false, tag := "", pkgPath := "", byteOffset := 16 }], Tryz.t24⟩
noncomputable def ty25 : TRow := ⟨25, Go.TypeDesc.slice 61, Tryz.t25⟩
noncomputable def ty26 : TRow := ⟨26, Go.TypeDesc.pointer 61, Tryz.t26⟩
noncomputable def ty27 : TRow := ⟨27, Go.TypeDesc.struct #[{ name := "Need", type := 25, offset := 0, embedded := Bool.false, tag := "", pkgPath := "", byteOffset := 0 }, { name := "Last", type := 25, offset := 1, embedded := Bool.false, tag := "", pkgPath := "", byteOffset := 24 }, { name := "Own", type := 26, offset := 2, embedded := Bool.false, tag := "", pkgPath := "", byteOffset := 48 }], Tryz.t27⟩
noncomputable def ty28 : TRow := ⟨28, Go.TypeDesc.struct #[{ name := "Need", type := 25, offset := 0, embedded := Bool.false, tag := "", pkgPath := "", byteOffset := 0 }, { name := "Last", type := 25, offset := 1, embedded := Bool.false, tag := "", pkgPath := "", byteOffset := 24 }, { name := "Own", type := 26, offset := 2, embedded := Bool.false, tag := "", pkgPath := "", byteOffset := 48 }], Tryz.t28⟩
noncomputable def ty29 : TRow := ⟨29, Go.TypeDesc.slice 9, Tryz.t29⟩
noncomputable def ty35 : TRow := ⟨35, Go.TypeDesc.struct #[{ name := "Chain", type := 22, offset := 0, embedded := Bool.false, tag := "", pkgPath := "", byteOffset := 0 }, { name := "Floor", type := 22, offset := 1, embedded := Bool.false, tag := "", pkgPath := "", byteOffset := 8 }, { name := "Tail", type := 22, offset := 2, embedded := Bool.false, tag := "", pkgPath := "", byteOffset := 16 }], Tryz.t35⟩
noncomputable def ty37 : TRow := ⟨37, Go.TypeDesc.slice 39, Tryz.t37⟩
noncomputable def ty38 : TRow := ⟨38, Go.TypeDesc.struct #[{ name := "Proc", type := 22, offset := 0, embedded := Bool.false, tag := "", pkgPath := "", byteOffset := 0 }, { name := "Inc", type := 22, offset := 1, embedded := Bool.false, tag := "", pkgPath := "", byteOffset := 8 }, { name := "K", type := 22, offset := 2, embedded := Bool.false, tag := "", pkgPath := "", byteOffset := 16 }], Tryz.t38⟩
noncomputable def ty39 : TRow := ⟨39, Go.TypeDesc.struct #[{ name := "Proc", type := 22, offset := 0, embedded := Bool.false, tag := "", pkgPath := "", byteOffset := 0 }, { name := "Inc", type := 22, offset := 1, embedded := Bool.false, tag := "", pkgPath := "", byteOffset := 8 }, { name := "K", type := 22, offset := 2, embedded := Bool.false, tag := "", pkgPath := "", byteOffset := 16 }], Tryz.t39⟩
noncomputable def ty40 : TRow := ⟨40, Go.TypeDesc.struct #[{ name := "Need", type := 37, offset := 0, embedded := Bool.false, tag := "", pkgPath := "", byteOffset := 0 }, { name := "Last", type := 37, offset := 1, embedded := Bool.false, tag := "", pkgPath := "", byteOffset := 24 }, { name := "Own", type := 39, offset := 2, embedded := Bool.false, tag := "", pkgPath := "", byteOffset := 48 }, { name := "Told", type := 4, offset := 5, embedded := Bool.false, tag := "", pkgPath := "", byteOffset := 72 }], Tryz.t40⟩
noncomputable def ty41 : TRow := ⟨41, Go.TypeDesc.struct #[{ name := "Need", type := 37, offset := 0, embedded := Bool.false, tag := "", pkgPath := "", byteOffset := 0 }, { name := "Last", type := 37, offset := 1, embedded := Bool.false, tag := "", pkgPath := "", byteOffset := 24 }, { name := "Own", type := 39, offset := 2, embedded := Bool.false, tag := "", pkgPath := "", byteOffset := 48 }, { name := "Told", type := 4, offset := 5, embedded := Bool.false, tag := "", pkgPath := "", byteOffset := 72 }], Tryz.t41⟩
noncomputable def ty46 : TRow := ⟨46, Go.TypeDesc.tuple #[22, 4], Tryz.t46⟩
noncomputable def ty49 : TRow := ⟨49, Go.TypeDesc.slice 22, Tryz.t49⟩
noncomputable def ty57 : TRow := ⟨57, Go.TypeDesc.struct #[{ name := "Kind", type := 5, offset := 0, embedded := Bool.false, tag := "", pkgPath := "", byteOffset := 0 }, { name := "Doc", type := 22, offset := 1, embedded := Bool.false, tag := "", pkgPath := "", byteOffset := 8 }, { name := "N", type := 22, offset := 2, embedded := Bool.false, tag := "", pkgPath := "", byteOffset := 16 }, { name := "Proc", type := 22, offset := 3, embedded := Bool.false, tag := "", pkgPath := "", byteOffset := 24 }, { name := "Inc", type := 22, offset := 4, embedded := Bool.false, tag := "", pkgPath := "", byteOffset := 32 }, { name := "K", type := 22, offset := 5, embedded := Bool.false, tag := "", pkgPath := "", byteOffset := 40 }], Tryz.t57⟩
noncomputable def ty58 : TRow := ⟨58, Go.TypeDesc.struct #[{ name := "Kind", type := 5, offset := 0, embedded := Bool.false, tag := "", pkgPath := "", byteOffset := 0 }, { name := "Doc", type := 22, offset := 1, embedded := Bool.false, tag := "", pkgPath := "", byteOffset := 8 }, { name := "N", type := 22, offset := 2, embedded := Bool.false, tag := "", pkgPath := "", byteOffset := 16 }, { name := "Proc", type := 22, offset := 3, embedded := Bool.false, tag := "", pkgPath := "", byteOffset := 24 }, { name := "Inc", type := 22, offset := 4, embedded := Bool.false, tag := "", pkgPath := "", byteOffset := 32 }, { name := "K", type := 22, offset := 5, embedded := Bool.false, tag := "", pkgPath := "", byteOffset := 40 }], Tryz.t58⟩
noncomputable def ty59 : TRow := ⟨59, Go.TypeDesc.tuple #[58, 4], Tryz.t59⟩
noncomputable def ty61 : TRow := ⟨61, Go.TypeDesc.struct #[{ name := "Proc", type := 22, offset := 0, embedded := Bool.false, tag := "", pkgPath := "", byteOffset := 0 }, { name := "Inc", type := 22, offset := 1, embedded := Bool.false, tag := "", pkgPath := "", byteOffset := 8 }, { name := "K", type := 22, offset := 2, embedded := Bool.false, tag := "", pkgPath := "", byteOffset := 16 }], Tryz.t61⟩
noncomputable def ty67 : TRow := ⟨67, Go.TypeDesc.map 22 68, Tryz.t67⟩
noncomputable def ty68 : TRow := ⟨68, Go.TypeDesc.struct #[], Tryz.t68⟩
noncomputable def ty69 : TRow := ⟨69, Go.TypeDesc.tuple #[68, 4], Tryz.t69⟩
noncomputable def ty70 : TRow := ⟨70, Go.TypeDesc.struct #[{ name := "Kind", type := 5, offset := 0, embedded := Bool.false, tag := "", pkgPath := "", byteOffset := 0 }, { name := "Doc", type := 22, offset := 1, embedded := Bool.false, tag := "", pkgPath := "", byteOffset := 8 }, { name := "N", type := 22, offset := 2, embedded := Bool.false, tag := "", pkgPath := "", byteOffset := 16 }, { name := "Proc", type := 22, offset := 3, embedded := Bool.false, tag := "", pkgPath := "", byteOffset := 24 }, { name := "Inc", type := 22, offset := 4, embedded := Bool.false, tag := "", pkgPath := "", byteOffset := 32 }, { name := "K", type := 22, offset := 5, embedded := Bool.false, tag := "", pkgPath := "", byteOffset := 40 }], Tryz.t70⟩
noncomputable def ty71 : TRow := ⟨71, Go.TypeDesc.tuple #[70, 4], Tryz.t71⟩
noncomputable def ty79 : TRow := ⟨79, Go.TypeDesc.array 5 9, Tryz.t79⟩
noncomputable def ty82 : TRow := ⟨82, Go.TypeDesc.array 5 3, Tryz.t82⟩
noncomputable def ty84 : TRow := ⟨84, Go.TypeDesc.array 4 22, Tryz.t84⟩
noncomputable def ty85 : TRow := ⟨85, Go.TypeDesc.interface #[("Error", 137)], Tryz.t85⟩
noncomputable def ty86 : TRow := ⟨86, Go.TypeDesc.interface #[("Error", 137)], Tryz.t86⟩
noncomputable def ty87 : TRow := ⟨87, Go.TypeDesc.tuple #[22, 86], Tryz.t87⟩
noncomputable def ty95 : TRow := ⟨95, Go.TypeDesc.int Go.IntKind.u64, Tryz.t95⟩
noncomputable def ty99 : TRow := ⟨99, Go.TypeDesc.slice 70, Tryz.t99⟩
noncomputable def ty110 : TRow := ⟨110, Go.TypeDesc.int Go.IntKind.i64, Tryz.t110⟩
noncomputable def ty111 : TRow := ⟨111, Go.TypeDesc.tuple #[3, 110], Tryz.t111⟩
noncomputable def ty116 : TRow := ⟨116, Go.TypeDesc.tuple #[3, 4], Tryz.t116⟩
noncomputable def ty119 : TRow := ⟨119, Go.TypeDesc.int Go.IntKind.u32, Tryz.t119⟩
noncomputable def ty122 : TRow := ⟨122, Go.TypeDesc.tuple #[49, 4], Tryz.t122⟩
noncomputable def ty130 : TRow := ⟨130, Go.TypeDesc.pointer 133, Tryz.t130⟩
noncomputable def ty131 : TRow := ⟨131, Go.TypeDesc.slice 5, Tryz.t131⟩
noncomputable def ty132 : TRow := ⟨132, Go.TypeDesc.struct #[{ name := "addr", type := 130, offset := 0, embedded := Bool.false, tag := "", pkgPath := "strings", byteOffset := 0 }, { name := "buf", type := 131, offset := 1, embedded := Bool.false, tag := "", pkgPath := "strings", byteOffset := 8 }], Tryz.t132⟩
noncomputable def ty133 : TRow := ⟨133, Go.TypeDesc.struct #[{ name := "addr", type := 130, offset := 0, embedded := Bool.false, tag := "", pkgPath := "strings", byteOffset := 0 }, { name := "buf", type := 131, offset := 1, embedded := Bool.false, tag := "", pkgPath := "strings", byteOffset := 8 }], Tryz.t133⟩
noncomputable def ty135 : TRow := ⟨135, Go.TypeDesc.tuple #[3, 86], Tryz.t135⟩
noncomputable def ty140 : TRow := ⟨140, Go.TypeDesc.int Go.IntKind.i64, Tryz.t140⟩
noncomputable def ty143 : TRow := ⟨143, Go.TypeDesc.pointer 166, Tryz.t143⟩
noncomputable def ty147 : TRow := ⟨147, Go.TypeDesc.array 24 5, Tryz.t147⟩
noncomputable def ty149 : TRow := ⟨149, Go.TypeDesc.tuple #[131, 9], Tryz.t149⟩
noncomputable def ty151 : TRow := ⟨151, Go.TypeDesc.int Go.IntKind.u64, Tryz.t151⟩
noncomputable def ty155 : TRow := ⟨155, Go.TypeDesc.pointer 3, Tryz.t155⟩
noncomputable def ty159 : TRow := ⟨159, Go.TypeDesc.pointer 5, Tryz.t159⟩
noncomputable def ty161 : TRow := ⟨161, Go.TypeDesc.tuple #[21, 3], Tryz.t161⟩
noncomputable def ty165 : TRow := ⟨165, Go.TypeDesc.struct #[{ name := "Func", type := 9, offset := 0, embedded := Bool.false, tag := "", pkgPath := "", byteOffset := 0 }, { name := "Num", type := 9, offset := 1, embedded := Bool.false, tag := "", pkgPath := "", byteOffset := 16 }, { name := "Err", type := 86, offset := 2, embedded := Bool.false, tag := "", pkgPath := "", byteOffset := 32 }], Tryz.t165⟩
noncomputable def ty166 : TRow := ⟨166, Go.TypeDesc.struct #[{ name := "Func", type := 9, offset := 0, embedded := Bool.false, tag := "", pkgPath := "", byteOffset := 0 }, { name := "Num", type := 9, offset := 1, embedded := Bool.false, tag := "", pkgPath := "", byteOffset := 16 }, { name := "Err", type := 86, offset := 2, embedded := Bool.false, tag := "", pkgPath := "", byteOffset := 32 }], Tryz.t166⟩
noncomputable def ty170 : TRow := ⟨170, Go.TypeDesc.array 20 22, Tryz.t170⟩
noncomputable def ty171 : TRow := ⟨171, Go.TypeDesc.array 65 5, Tryz.t171⟩
noncomputable def ty173 : TRow := ⟨173, Go.TypeDesc.pointer 151, Tryz.t173⟩
noncomputable def ty174 : TRow := ⟨174, Go.TypeDesc.tuple #[3, 3], Tryz.t174⟩
noncomputable def ty177 : TRow := ⟨177, Go.TypeDesc.unsafePointer, Tryz.t177⟩
noncomputable def ty180 : TRow := ⟨180, Go.TypeDesc.pointer 182, Tryz.t180⟩
noncomputable def ty181 : TRow := ⟨181, Go.TypeDesc.struct #[{ name := "s", type := 9, offset := 0, embedded := Bool.false, tag := "", pkgPath := "errors", byteOffset := 0 }], Tryz.t181⟩
noncomputable def ty182 : TRow := ⟨182, Go.TypeDesc.struct #[{ name := "s", type := 9, offset := 0, embedded := Bool.false, tag := "", pkgPath := "errors", byteOffset := 0 }], Tryz.t182⟩
noncomputable def ty183 : TRow := ⟨183, Go.TypeDesc.array 256 5, Tryz.t183⟩
noncomputable def ty184 : TRow := ⟨184, Go.TypeDesc.struct #[{ name := "lo", type := 5, offset := 0, embedded := Bool.false, tag := "", pkgPath := "unicode/utf8", byteOffset := 0 }, { name := "hi", type := 5, offset := 1, embedded := Bool.false, tag := "", pkgPath := "unicode/utf8", byteOffset := 1 }], Tryz.t184⟩
noncomputable def ty185 : TRow := ⟨185, Go.TypeDesc.struct #[{ name := "lo", type := 5, offset := 0, embedded := Bool.false, tag := "", pkgPath := "unicode/utf8", byteOffset := 0 }, { name := "hi", type := 5, offset := 1, embedded := Bool.false, tag := "", pkgPath := "unicode/utf8", byteOffset := 1 }], Tryz.t185⟩
noncomputable def ty186 : TRow := ⟨186, Go.TypeDesc.array 16 185, Tryz.t186⟩
noncomputable def ty187 : TRow := ⟨187, Go.TypeDesc.tuple #[119, 119], Tryz.t187⟩
noncomputable def ty190 : TRow := ⟨190, Go.TypeDesc.array 32 5, Tryz.t190⟩
noncomputable def ty191 : TRow := ⟨191, Go.TypeDesc.array 64 5, Tryz.t191⟩
noncomputable def ty192 : TRow := ⟨192, Go.TypeDesc.struct #[{ name := "_interface", type := 17, offset := 0, embedded := Bool.false, tag := "", pkgPath := "runtime", byteOffset := 0 }, { name := "concrete", type := 17, offset := 1, embedded := Bool.false, tag := "", pkgPath := "runtime", byteOffset := 8 }, { name := "asserted", type := 17, offset := 2, embedded := Bool.false, tag := "", pkgPath := "runtime", byteOffset := 16 }, { name := "missingMethod", type := 9, offset := 3, embedded := Bool.false, tag := "", pkgPath := "runtime", byteOffset := 24 }], Tryz.t192⟩
noncomputable def ty193 : TRow := ⟨193, Go.TypeDesc.struct #[{ name := "_interface", type := 17, offset := 0, embedded := Bool.false, tag := "", pkgPath := "runtime", byteOffset := 0 }, { name := "concrete", type := 17, offset := 1, embedded := Bool.false, tag := "", pkgPath := "runtime", byteOffset := 8 }, { name := "asserted", type := 17, offset := 2, embedded := Bool.false, tag := "", pkgPath := "runtime", byteOffset := 16 }, { name := "missingMethod", type := 9, offset := 3, embedded := Bool.false, tag := "", pkgPath := "runtime", byteOffset := 24 }], Tryz.t193⟩
noncomputable def ty194 : TRow := ⟨194, Go.TypeDesc.array 0 16, Tryz.t194⟩
noncomputable def ty195 : TRow := ⟨195, Go.TypeDesc.struct #[{ name := "_", type := 194, offset := 0, embedded := Bool.false, tag := "", pkgPath := "runtime", byteOffset := 0 }], Tryz.t195⟩
noncomputable def ty196 : TRow := ⟨196, Go.TypeDesc.struct #[{ name := "_", type := 194, offset := 0, embedded := Bool.false, tag := "", pkgPath := "runtime", byteOffset := 0 }], Tryz.t196⟩
noncomputable def ty198 : TRow := ⟨198, Go.TypeDesc.int Go.IntKind.u8, Tryz.t198⟩
noncomputable def ty199 : TRow := ⟨199, Go.TypeDesc.int Go.IntKind.u8, Tryz.t199⟩
noncomputable def ty201 : TRow := ⟨201, Go.TypeDesc.int Go.IntKind.i32, Tryz.t201⟩
noncomputable def ty202 : TRow := ⟨202, Go.TypeDesc.int Go.IntKind.i32, Tryz.t202⟩
noncomputable def ty203 : TRow := ⟨203, Go.TypeDesc.struct #[{ name := "Size_", type := 12, offset := 0, embedded := Bool.false, tag := "", pkgPath := "", byteOffset := 0 }, { name := "PtrBytes", type := 12, offset := 1, embedded := Bool.false, tag := "", pkgPath := "", byteOffset := 8 }, { name := "Hash", type := 119, offset := 2, embedded := Bool.false, tag := "", pkgPath := "", byteOffset := 16 }, { name := "TFlag", type := 198, offset := 3, embedded := Bool.false, tag := "", pkgPath := "", byteOffset := 20 }, { name := "Align_", type := 5, offset := 4, embedded := Bool.false, tag := "", pkgPath := "", byteOffset := 21 }, { name := "FieldAlign_", type := 5, offset := 5, embedded := Bool.false, tag := "", pkgPath := "", byteOffset := 22 }, { name := "Kind_", type := 199, offset := 6, embedded := Bool.false, tag := "", pkgPath := "", byteOffset := 23 }, { name := "Equal", type := 200, offset := 7, embedded := Bool.false, tag := "", pkgPath := "", byteOffset := 24 }, { name := "GCData", type := 159, offset := 8, embedded := Bool.false, tag := "", pkgPath := "", byteOffset := 32 }, { name := "Str", type := 201, offset := 9, embedded := Bool.false, tag := "", pkgPath := "", byteOffset := 40 }, { name := "PtrToThis", type := 202, offset := 10, embedded := Bool.false, tag := "", pkgPath := "", byteOffset := 44 }], Tryz.t203⟩
noncomputable def ty204 : TRow := ⟨204, Go.TypeDesc.struct #[{ name := "Size_", type := 12, offset := 0, embedded := Bool.false, tag := "", pkgPath := "", byteOffset := 0 }, { name := "PtrBytes", type := 12, offset := 1, embedded := Bool.false, tag := "", pkgPath := "", byteOffset := 8 }, { name := "Hash", type := 119, offset := 2, embedded := Bool.false, tag := "", pkgPath := "", byteOffset := 16 }, { name := "TFlag", type := 198, offset := 3, embedded := Bool.false, tag := "", pkgPath := "", byteOffset := 20 }, { name := "Align_", type := 5, offset := 4, embedded := Bool.false, tag := "", pkgPath := "", byteOffset := 21 }, { name := "FieldAlign_", type := 5, offset := 5, embedded := Bool.false, tag := "", pkgPath := "", byteOffset := 22 }, { name := "Kind_", type := 199, offset := 6, embedded := Bool.false, tag := "", pkgPath := "", byteOffset := 23 }, { name := "Equal", type := 200, offset := 7, embedded := Bool.false, tag := "", pkgPath := "", byteOffset := 24 }, { name := "GCData", type := 159, offset := 8, embedded := Bool.false, tag := "", pkgPath := "", byteOffset := 32 }, { name := "Str", type := 201, offset := 9, embedded := Bool.false, tag := "", pkgPath := "", byteOffset := 40 }, { name := "PtrToThis", type := 202, offset := 10, embedded := Bool.false, tag := "", pkgPath := "", byteOffset := 44 }], Tryz.t204⟩
noncomputable def fn8 : FRow := ⟨8, Tryz.f8⟩
noncomputable def fn9 : FRow := ⟨9, Tryz.f9⟩
noncomputable def fn10 : FRow := ⟨10, Tryz.f10⟩
noncomputable def fn14 : FRow := ⟨14, Tryz.f14⟩
noncomputable def fn16 : FRow := ⟨16, Tryz.f16⟩
noncomputable def fn17 : FRow := ⟨17, Tryz.f17⟩
noncomputable def fn18 : FRow := ⟨18, Tryz.f18⟩
noncomputable def fn20 : FRow := ⟨20, Tryz.f20⟩
noncomputable def fn25 : FRow := ⟨25, Tryz.f25⟩
noncomputable def fn26 : FRow := ⟨26, Tryz.f26⟩
noncomputable def fn27 : FRow := ⟨27, Tryz.f27⟩
noncomputable def fn28 : FRow := ⟨28, Tryz.f28⟩
noncomputable def fn37 : FRow := ⟨37, Tryz.f37⟩
noncomputable def fn38 : FRow := ⟨38, Tryz.f38⟩
noncomputable def fn39 : FRow := ⟨39, Tryz.f39⟩
noncomputable def fn40 : FRow := ⟨40, Tryz.f40⟩
noncomputable def fn41 : FRow := ⟨41, Tryz.f41⟩
noncomputable def fn42 : FRow := ⟨42, Tryz.f42⟩
noncomputable def fn43 : FRow := ⟨43, Tryz.f43⟩
noncomputable def fn44 : FRow := ⟨44, Tryz.f44⟩
noncomputable def fn45 : FRow := ⟨45, Tryz.f45⟩
noncomputable def fn46 : FRow := ⟨46, Tryz.f46⟩
noncomputable def fn47 : FRow := ⟨47, Tryz.f47⟩
noncomputable def fn48 : FRow := ⟨48, Tryz.f48⟩
noncomputable def fn58 : FRow := ⟨58, Tryz.f58⟩
noncomputable def fn59 : FRow := ⟨59, Tryz.f59⟩
noncomputable def fn60 : FRow := ⟨60, Tryz.f60⟩
noncomputable def fn61 : FRow := ⟨61, Tryz.f61⟩
noncomputable def fn62 : FRow := ⟨62, Tryz.f62⟩
noncomputable def fn63 : FRow := ⟨63, Tryz.f63⟩
noncomputable def fn64 : FRow := ⟨64, Tryz.f64⟩
noncomputable def fn65 : FRow := ⟨65, Tryz.f65⟩
noncomputable def fn66 : FRow := ⟨66, Tryz.f66⟩
noncomputable def fn67 : FRow := ⟨67, Tryz.f67⟩
noncomputable def fn68 : FRow := ⟨68, Tryz.f68⟩
noncomputable def fn69 : FRow := ⟨69, Tryz.f69⟩
noncomputable def fn70 : FRow := ⟨70, Tryz.f70⟩
noncomputable def fn71 : FRow := ⟨71, Tryz.f71⟩
noncomputable def fn72 : FRow := ⟨72, Tryz.f72⟩
noncomputable def fn73 : FRow := ⟨73, Tryz.f73⟩
noncomputable def fn74 : FRow := ⟨74, Tryz.f74⟩
noncomputable def fn75 : FRow := ⟨75, Tryz.f75⟩
noncomputable def fn90 : FRow := ⟨90, Tryz.f90⟩
noncomputable def fn91 : FRow := ⟨91, Tryz.f91⟩
noncomputable def fn92 : FRow := ⟨92, Tryz.f92⟩
noncomputable def fn93 : FRow := ⟨93, Tryz.f93⟩
noncomputable def fn94 : FRow := ⟨94, Tryz.f94⟩
noncomputable def fn95 : FRow := ⟨95, Tryz.f95⟩
noncomputable def fn96 : FRow := ⟨96, Tryz.f96⟩
noncomputable def fn97 : FRow := ⟨97, Tryz.f97⟩
noncomputable def fn98 : FRow := ⟨98, Tryz.f98⟩
noncomputable def fn99 : FRow := ⟨99, Tryz.f99⟩
noncomputable def fn100 : FRow := ⟨100, Tryz.f100⟩
noncomputable def fn101 : FRow := ⟨101, Tryz.f101⟩
noncomputable def fn102 : FRow := ⟨102, Tryz.f102⟩
noncomputable def fn103 : FRow := ⟨103, Tryz.f103⟩
noncomputable def fn104 : FRow := ⟨104, Tryz.f104⟩
noncomputable def fn105 : FRow := ⟨105, Tryz.f105⟩
noncomputable def fn106 : FRow := ⟨106, Tryz.f106⟩
noncomputable def fn107 : FRow := ⟨107, Tryz.f107⟩
noncomputable def fn108 : FRow := ⟨108, Tryz.f108⟩
noncomputable def fn115 : FRow := ⟨115, Tryz.f115⟩
noncomputable def fn116 : FRow := ⟨116, Tryz.f116⟩
noncomputable def fn118 : FRow := ⟨118, Tryz.f118⟩
noncomputable def fn119 : FRow := ⟨119, Tryz.f119⟩
noncomputable def fn120 : FRow := ⟨120, Tryz.f120⟩
noncomputable def fn121 : FRow := ⟨121, Tryz.f121⟩
noncomputable def fn122 : FRow := ⟨122, Tryz.f122⟩
noncomputable def fn123 : FRow := ⟨123, Tryz.f123⟩
noncomputable def fn124 : FRow := ⟨124, Tryz.f124⟩
noncomputable def fn125 : FRow := ⟨125, Tryz.f125⟩
noncomputable def fn126 : FRow := ⟨126, Tryz.f126⟩
noncomputable def fn130 : FRow := ⟨130, Tryz.f130⟩
noncomputable def fn131 : FRow := ⟨131, Tryz.f131⟩
noncomputable def fn133 : FRow := ⟨133, Tryz.f133⟩
noncomputable def fn134 : FRow := ⟨134, Tryz.f134⟩
noncomputable def fn135 : FRow := ⟨135, Tryz.f135⟩
noncomputable def fn136 : FRow := ⟨136, Tryz.f136⟩
noncomputable def fn137 : FRow := ⟨137, Tryz.f137⟩
noncomputable def fn139 : FRow := ⟨139, Tryz.f139⟩
noncomputable def fn140 : FRow := ⟨140, Tryz.f140⟩
noncomputable def tys : List TRow := [ty0, ty2, ty3, ty4, ty5, ty6, ty7, ty8, ty9, ty10, ty11, ty12, ty13, ty14, ty15, ty16, ty17, ty18, ty19, ty20, ty21, ty22, ty23, ty24, ty25, ty26, ty27, ty28, ty29, ty35, ty37, ty38, ty39, ty40, ty41, ty46, ty49, ty57, ty58, ty59, ty61, ty67, ty68, ty69, ty70, ty71, ty79, ty82, ty84, ty85, ty86, ty87, ty95, ty99, ty110, ty111, ty116, ty119, ty122, ty130, ty131, ty132, ty133, ty135, ty140, ty143, ty147, ty149, ty151, ty155, ty159, ty161, ty165, ty166, ty170, ty171, ty173, ty174, ty177, ty180, ty181, ty182, ty183, ty184, ty185, ty186, ty187, ty190, ty191, ty192, ty193, ty194, ty195, ty196, ty198, ty199, ty201, ty202, ty203, ty204]
noncomputable def fns : List FRow := [fn8, fn9, fn10, fn14, fn16, fn17, fn18, fn20, fn25, fn26, fn27, fn28, fn37, fn38, fn39, fn40, fn41, fn42, fn43, fn44, fn45, fn46, fn47, fn48, fn58, fn59, fn60, fn61, fn62, fn63, fn64, fn65, fn66, fn67, fn68, fn69, fn70, fn71, fn72, fn73, fn74, fn75, fn90, fn91, fn92, fn93, fn94, fn95, fn96, fn97, fn98, fn99, fn100, fn101, fn102, fn103, fn104, fn105, fn106, fn107, fn108, fn115, fn116, fn118, fn119, fn120, fn121, fn122, fn123, fn124, fn125, fn126, fn130, fn131, fn133, fn134, fn135, fn136, fn137, fn139, fn140]
def eqs : List Nat := [7, 8, 23, 24, 27, 28, 35, 38, 39, 40, 41, 57, 58, 61, 68, 70, 132, 133, 181, 182, 184, 185]
def mths : List MRow := []
theorem tys_ok : ∀ r ∈ tys, TRowOk Tryz.prog r :=
  List.forall_mem_cons.2 ⟨⟨Tryz.underlying0, Tryz.type0⟩, List.forall_mem_cons.2 ⟨⟨Tryz.underlying2, Tryz.type2⟩, List.forall_mem_cons.2 ⟨⟨Tryz.underlying3, Tryz.type3⟩, List.forall_mem_cons.2 ⟨⟨Tryz.underlying4, Tryz.type4⟩, List.forall_mem_cons.2 ⟨⟨Tryz.underlying5, Tryz.type5⟩, List.forall_mem_cons.2 ⟨⟨Tryz.underlying6, Tryz.type6⟩, List.forall_mem_cons.2 ⟨⟨Tryz.underlying7, Tryz.type7⟩, List.forall_mem_cons.2 ⟨⟨Tryz.underlying8, Tryz.type8⟩, List.forall_mem_cons.2 ⟨⟨Tryz.underlying9, Tryz.type9⟩, List.forall_mem_cons.2 ⟨⟨Tryz.underlying10, Tryz.type10⟩, List.forall_mem_cons.2 ⟨⟨Tryz.underlying11, Tryz.type11⟩, List.forall_mem_cons.2 ⟨⟨Tryz.underlying12, Tryz.type12⟩, List.forall_mem_cons.2 ⟨⟨Tryz.underlying13, Tryz.type13⟩, List.forall_mem_cons.2 ⟨⟨Tryz.underlying14, Tryz.type14⟩, List.forall_mem_cons.2 ⟨⟨Tryz.underlying15, Tryz.type15⟩, List.forall_mem_cons.2 ⟨⟨Tryz.underlying16, Tryz.type16⟩, List.forall_mem_cons.2 ⟨⟨Tryz.underlying17, Tryz.type17⟩, List.forall_mem_cons.2 ⟨⟨Tryz.underlying18, Tryz.type18⟩, List.forall_mem_cons.2 ⟨⟨Tryz.underlying19, Tryz.type19⟩, List.forall_mem_cons.2 ⟨⟨Tryz.underlying20, Tryz.type20⟩, List.forall_mem_cons.2 ⟨⟨Tryz.underlying21, Tryz.type21⟩, List.forall_mem_cons.2 ⟨⟨Tryz.underlying22, Tryz.type22⟩, List.forall_mem_cons.2 ⟨⟨Tryz.underlying23, Tryz.type23⟩, List.forall_mem_cons.2 ⟨⟨Tryz.underlying24, Tryz.type24⟩, List.forall_mem_cons.2 ⟨⟨Tryz.underlying25, Tryz.type25⟩, List.forall_mem_cons.2 ⟨⟨Tryz.underlying26, Tryz.type26⟩, List.forall_mem_cons.2 ⟨⟨Tryz.underlying27, Tryz.type27⟩, List.forall_mem_cons.2 ⟨⟨Tryz.underlying28, Tryz.type28⟩, List.forall_mem_cons.2 ⟨⟨Tryz.underlying29, Tryz.type29⟩, List.forall_mem_cons.2 ⟨⟨Tryz.underlying35, Tryz.type35⟩, List.forall_mem_cons.2 ⟨⟨Tryz.underlying37, Tryz.type37⟩, List.forall_mem_cons.2 ⟨⟨Tryz.underlying38, Tryz.type38⟩, List.forall_mem_cons.2 ⟨⟨Tryz.underlying39, Tryz.type39⟩, List.forall_mem_cons.2 ⟨⟨Tryz.underlying40, Tryz.type40⟩, List.forall_mem_cons.2 ⟨⟨Tryz.underlying41, Tryz.type41⟩, List.forall_mem_cons.2 ⟨⟨Tryz.underlying46, Tryz.type46⟩, List.forall_mem_cons.2 ⟨⟨Tryz.underlying49, Tryz.type49⟩, List.forall_mem_cons.2 ⟨⟨Tryz.underlying57, Tryz.type57⟩, List.forall_mem_cons.2 ⟨⟨Tryz.underlying58, Tryz.type58⟩, List.forall_mem_cons.2 ⟨⟨Tryz.underlying59, Tryz.type59⟩, List.forall_mem_cons.2 ⟨⟨Tryz.underlying61, Tryz.type61⟩, List.forall_mem_cons.2 ⟨⟨Tryz.underlying67, Tryz.type67⟩, List.forall_mem_cons.2 ⟨⟨Tryz.underlying68, Tryz.type68⟩, List.forall_mem_cons.2 ⟨⟨Tryz.underlying69, Tryz.type69⟩, List.forall_mem_cons.2 ⟨⟨Tryz.underlying70, Tryz.type70⟩, List.forall_mem_cons.2 ⟨⟨Tryz.underlying71, Tryz.type71⟩, List.forall_mem_cons.2 ⟨⟨Tryz.underlying79, Tryz.type79⟩, List.forall_mem_cons.2 ⟨⟨Tryz.underlying82, Tryz.type82⟩, List.forall_mem_cons.2 ⟨⟨Tryz.underlying84, Tryz.type84⟩, List.forall_mem_cons.2 ⟨⟨Tryz.underlying85, Tryz.type85⟩, List.forall_mem_cons.2 ⟨⟨Tryz.underlying86, Tryz.type86⟩, List.forall_mem_cons.2 ⟨⟨Tryz.underlying87, Tryz.type87⟩, List.forall_mem_cons.2 ⟨⟨Tryz.underlying95, Tryz.type95⟩, List.forall_mem_cons.2 ⟨⟨Tryz.underlying99, Tryz.type99⟩, List.forall_mem_cons.2 ⟨⟨Tryz.underlying110, Tryz.type110⟩, List.forall_mem_cons.2 ⟨⟨Tryz.underlying111, Tryz.type111⟩, List.forall_mem_cons.2 ⟨⟨Tryz.underlying116, Tryz.type116⟩, List.forall_mem_cons.2 ⟨⟨Tryz.underlying119, Tryz.type119⟩, List.forall_mem_cons.2 ⟨⟨Tryz.underlying122, Tryz.type122⟩, List.forall_mem_cons.2 ⟨⟨Tryz.underlying130, Tryz.type130⟩, List.forall_mem_cons.2 ⟨⟨Tryz.underlying131, Tryz.type131⟩, List.forall_mem_cons.2 ⟨⟨Tryz.underlying132, Tryz.type132⟩, List.forall_mem_cons.2 ⟨⟨Tryz.underlying133, Tryz.type133⟩, List.forall_mem_cons.2 ⟨⟨Tryz.underlying135, Tryz.type135⟩, List.forall_mem_cons.2 ⟨⟨Tryz.underlying140, Tryz.type140⟩, List.forall_mem_cons.2 ⟨⟨Tryz.underlying143, Tryz.type143⟩, List.forall_mem_cons.2 ⟨⟨Tryz.underlying147, Tryz.type147⟩, List.forall_mem_cons.2 ⟨⟨Tryz.underlying149, Tryz.type149⟩, List.forall_mem_cons.2 ⟨⟨Tryz.underlying151, Tryz.type151⟩, List.forall_mem_cons.2 ⟨⟨Tryz.underlying155, Tryz.type155⟩, List.forall_mem_cons.2 ⟨⟨Tryz.underlying159, Tryz.type159⟩, List.forall_mem_cons.2 ⟨⟨Tryz.underlying161, Tryz.type161⟩, List.forall_mem_cons.2 ⟨⟨Tryz.underlying165, Tryz.type165⟩, List.forall_mem_cons.2 ⟨⟨Tryz.underlying166, Tryz.type166⟩, List.forall_mem_cons.2 ⟨⟨Tryz.underlying170, Tryz.type170⟩, List.forall_mem_cons.2 ⟨⟨Tryz.underlying171, Tryz.type171⟩, List.forall_mem_cons.2 ⟨⟨Tryz.underlying173, Tryz.type173⟩, List.forall_mem_cons.2 ⟨⟨Tryz.underlying174, Tryz.type174⟩, List.forall_mem_cons.2 ⟨⟨Tryz.underlying177, Tryz.type177⟩, List.forall_mem_cons.2 ⟨⟨Tryz.underlying180, Tryz.type180⟩, List.forall_mem_cons.2 ⟨⟨Tryz.underlying181, Tryz.type181⟩, List.forall_mem_cons.2 ⟨⟨Tryz.underlying182, Tryz.type182⟩, List.forall_mem_cons.2 ⟨⟨Tryz.underlying183, Tryz.type183⟩, List.forall_mem_cons.2 ⟨⟨Tryz.underlying184, Tryz.type184⟩, List.forall_mem_cons.2 ⟨⟨Tryz.underlying185, Tryz.type185⟩, List.forall_mem_cons.2 ⟨⟨Tryz.underlying186, Tryz.type186⟩, List.forall_mem_cons.2 ⟨⟨Tryz.underlying187, Tryz.type187⟩, List.forall_mem_cons.2 ⟨⟨Tryz.underlying190, Tryz.type190⟩, List.forall_mem_cons.2 ⟨⟨Tryz.underlying191, Tryz.type191⟩, List.forall_mem_cons.2 ⟨⟨Tryz.underlying192, Tryz.type192⟩, List.forall_mem_cons.2 ⟨⟨Tryz.underlying193, Tryz.type193⟩, List.forall_mem_cons.2 ⟨⟨Tryz.underlying194, Tryz.type194⟩, List.forall_mem_cons.2 ⟨⟨Tryz.underlying195, Tryz.type195⟩, List.forall_mem_cons.2 ⟨⟨Tryz.underlying196, Tryz.type196⟩, List.forall_mem_cons.2 ⟨⟨Tryz.underlying198, Tryz.type198⟩, List.forall_mem_cons.2 ⟨⟨Tryz.underlying199, Tryz.type199⟩, List.forall_mem_cons.2 ⟨⟨Tryz.underlying201, Tryz.type201⟩, List.forall_mem_cons.2 ⟨⟨Tryz.underlying202, Tryz.type202⟩, List.forall_mem_cons.2 ⟨⟨Tryz.underlying203, Tryz.type203⟩, List.forall_mem_cons.2 ⟨⟨Tryz.underlying204, Tryz.type204⟩, fun _ h => nomatch h⟩⟩⟩⟩⟩⟩⟩⟩⟩⟩⟩⟩⟩⟩⟩⟩⟩⟩⟩⟩⟩⟩⟩⟩⟩⟩⟩⟩⟩⟩⟩⟩⟩⟩⟩⟩⟩⟩⟩⟩⟩⟩⟩⟩⟩⟩⟩⟩⟩⟩⟩⟩⟩⟩⟩⟩⟩⟩⟩⟩⟩⟩⟩⟩⟩⟩⟩⟩⟩⟩⟩⟩⟩⟩⟩⟩⟩⟩⟩⟩⟩⟩⟩⟩⟩⟩⟩⟩⟩⟩⟩⟩⟩⟩⟩⟩⟩⟩⟩⟩
theorem fns_ok : ∀ r ∈ fns, FRowOk Tryz.prog r :=
  List.forall_mem_cons.2 ⟨⟨Tryz.func8, rfl, Tryz.call8⟩, List.forall_mem_cons.2 ⟨⟨Tryz.func9, rfl, Tryz.call9⟩, List.forall_mem_cons.2 ⟨⟨Tryz.func10, rfl, Tryz.call10⟩, List.forall_mem_cons.2 ⟨⟨Tryz.func14, rfl, Tryz.call14⟩, List.forall_mem_cons.2 ⟨⟨Tryz.func16, rfl, Tryz.call16⟩, List.forall_mem_cons.2 ⟨⟨Tryz.func17, rfl, Tryz.call17⟩, List.forall_mem_cons.2 ⟨⟨Tryz.func18, rfl, Tryz.call18⟩, List.forall_mem_cons.2 ⟨⟨Tryz.func20, rfl, Tryz.call20⟩, List.forall_mem_cons.2 ⟨⟨Tryz.func25, rfl, Tryz.call25⟩, List.forall_mem_cons.2 ⟨⟨Tryz.func26, rfl, Tryz.call26⟩, List.forall_mem_cons.2 ⟨⟨Tryz.func27, rfl, Tryz.call27⟩, List.forall_mem_cons.2 ⟨⟨Tryz.func28, rfl, Tryz.call28⟩, List.forall_mem_cons.2 ⟨⟨Tryz.func37, rfl, Tryz.call37⟩, List.forall_mem_cons.2 ⟨⟨Tryz.func38, rfl, Tryz.call38⟩, List.forall_mem_cons.2 ⟨⟨Tryz.func39, rfl, Tryz.call39⟩, List.forall_mem_cons.2 ⟨⟨Tryz.func40, rfl, Tryz.call40⟩, List.forall_mem_cons.2 ⟨⟨Tryz.func41, rfl, Tryz.call41⟩, List.forall_mem_cons.2 ⟨⟨Tryz.func42, rfl, Tryz.call42⟩, List.forall_mem_cons.2 ⟨⟨Tryz.func43, rfl, Tryz.call43⟩, List.forall_mem_cons.2 ⟨⟨Tryz.func44, rfl, Tryz.call44⟩, List.forall_mem_cons.2 ⟨⟨Tryz.func45, rfl, Tryz.call45⟩, List.forall_mem_cons.2 ⟨⟨Tryz.func46, rfl, Tryz.call46⟩, List.forall_mem_cons.2 ⟨⟨Tryz.func47, rfl, Tryz.call47⟩, List.forall_mem_cons.2 ⟨⟨Tryz.func48, rfl, Tryz.call48⟩, List.forall_mem_cons.2 ⟨⟨Tryz.func58, rfl, Tryz.call58⟩, List.forall_mem_cons.2 ⟨⟨Tryz.func59, rfl, Tryz.call59⟩, List.forall_mem_cons.2 ⟨⟨Tryz.func60, rfl, Tryz.call60⟩, List.forall_mem_cons.2 ⟨⟨Tryz.func61, rfl, Tryz.call61⟩, List.forall_mem_cons.2 ⟨⟨Tryz.func62, rfl, Tryz.call62⟩, List.forall_mem_cons.2 ⟨⟨Tryz.func63, rfl, Tryz.call63⟩, List.forall_mem_cons.2 ⟨⟨Tryz.func64, rfl, Tryz.call64⟩, List.forall_mem_cons.2 ⟨⟨Tryz.func65, rfl, Tryz.call65⟩, List.forall_mem_cons.2 ⟨⟨Tryz.func66, rfl, Tryz.call66⟩, List.forall_mem_cons.2 ⟨⟨Tryz.func67, rfl, Tryz.call67⟩, List.forall_mem_cons.2 ⟨⟨Tryz.func68, rfl, Tryz.call68⟩, List.forall_mem_cons.2 ⟨⟨Tryz.func69, rfl, Tryz.call69⟩, List.forall_mem_cons.2 ⟨⟨Tryz.func70, rfl, Tryz.call70⟩, List.forall_mem_cons.2 ⟨⟨Tryz.func71, rfl, Tryz.call71⟩, List.forall_mem_cons.2 ⟨⟨Tryz.func72, rfl, Tryz.call72⟩, List.forall_mem_cons.2 ⟨⟨Tryz.func73, rfl, Tryz.call73⟩, List.forall_mem_cons.2 ⟨⟨Tryz.func74, rfl, Tryz.call74⟩, List.forall_mem_cons.2 ⟨⟨Tryz.func75, rfl, Tryz.call75⟩, List.forall_mem_cons.2 ⟨⟨Tryz.func90, rfl, Tryz.call90⟩, List.forall_mem_cons.2 ⟨⟨Tryz.func91, rfl, Tryz.call91⟩, List.forall_mem_cons.2 ⟨⟨Tryz.func92, rfl, Tryz.call92⟩, List.forall_mem_cons.2 ⟨⟨Tryz.func93, rfl, Tryz.call93⟩, List.forall_mem_cons.2 ⟨⟨Tryz.func94, rfl, Tryz.call94⟩, List.forall_mem_cons.2 ⟨⟨Tryz.func95, rfl, Tryz.call95⟩, List.forall_mem_cons.2 ⟨⟨Tryz.func96, rfl, Tryz.call96⟩, List.forall_mem_cons.2 ⟨⟨Tryz.func97, rfl, Tryz.call97⟩, List.forall_mem_cons.2 ⟨⟨Tryz.func98, rfl, Tryz.call98⟩, List.forall_mem_cons.2 ⟨⟨Tryz.func99, rfl, Tryz.call99⟩, List.forall_mem_cons.2 ⟨⟨Tryz.func100, rfl, Tryz.call100⟩, List.forall_mem_cons.2 ⟨⟨Tryz.func101, rfl, Tryz.call101⟩, List.forall_mem_cons.2 ⟨⟨Tryz.func102, rfl, Tryz.call102⟩, List.forall_mem_cons.2 ⟨⟨Tryz.func103, rfl, Tryz.call103⟩, List.forall_mem_cons.2 ⟨⟨Tryz.func104, rfl, Tryz.call104⟩, List.forall_mem_cons.2 ⟨⟨Tryz.func105, rfl, Tryz.call105⟩, List.forall_mem_cons.2 ⟨⟨Tryz.func106, rfl, Tryz.call106⟩, List.forall_mem_cons.2 ⟨⟨Tryz.func107, rfl, Tryz.call107⟩, List.forall_mem_cons.2 ⟨⟨Tryz.func108, rfl, Tryz.call108⟩, List.forall_mem_cons.2 ⟨⟨Tryz.func115, rfl, Tryz.call115⟩, List.forall_mem_cons.2 ⟨⟨Tryz.func116, rfl, Tryz.call116⟩, List.forall_mem_cons.2 ⟨⟨Tryz.func118, rfl, Tryz.call118⟩, List.forall_mem_cons.2 ⟨⟨Tryz.func119, rfl, Tryz.call119⟩, List.forall_mem_cons.2 ⟨⟨Tryz.func120, rfl, Tryz.call120⟩, List.forall_mem_cons.2 ⟨⟨Tryz.func121, rfl, Tryz.call121⟩, List.forall_mem_cons.2 ⟨⟨Tryz.func122, rfl, Tryz.call122⟩, List.forall_mem_cons.2 ⟨⟨Tryz.func123, rfl, Tryz.call123⟩, List.forall_mem_cons.2 ⟨⟨Tryz.func124, rfl, Tryz.call124⟩, List.forall_mem_cons.2 ⟨⟨Tryz.func125, rfl, Tryz.call125⟩, List.forall_mem_cons.2 ⟨⟨Tryz.func126, rfl, Tryz.call126⟩, List.forall_mem_cons.2 ⟨⟨Tryz.func130, rfl, Tryz.call130⟩, List.forall_mem_cons.2 ⟨⟨Tryz.func131, rfl, Tryz.call131⟩, List.forall_mem_cons.2 ⟨⟨Tryz.func133, rfl, Tryz.call133⟩, List.forall_mem_cons.2 ⟨⟨Tryz.func134, rfl, Tryz.call134⟩, List.forall_mem_cons.2 ⟨⟨Tryz.func135, rfl, Tryz.call135⟩, List.forall_mem_cons.2 ⟨⟨Tryz.func136, rfl, Tryz.call136⟩, List.forall_mem_cons.2 ⟨⟨Tryz.func137, rfl, Tryz.call137⟩, List.forall_mem_cons.2 ⟨⟨Tryz.func139, rfl, Tryz.call139⟩, List.forall_mem_cons.2 ⟨⟨Tryz.func140, rfl, Tryz.call140⟩, fun _ h => nomatch h⟩⟩⟩⟩⟩⟩⟩⟩⟩⟩⟩⟩⟩⟩⟩⟩⟩⟩⟩⟩⟩⟩⟩⟩⟩⟩⟩⟩⟩⟩⟩⟩⟩⟩⟩⟩⟩⟩⟩⟩⟩⟩⟩⟩⟩⟩⟩⟩⟩⟩⟩⟩⟩⟩⟩⟩⟩⟩⟩⟩⟩⟩⟩⟩⟩⟩⟩⟩⟩⟩⟩⟩⟩⟩⟩⟩⟩⟩⟩⟩⟩
theorem eqs_ok : ∀ t ∈ eqs, Tryz.prog.stoodInHeld t = false ∧ Tryz.prog.eqGuardType Tryz.prog.depth t = false ∧ ∀ f ∈ (Tryz.prog.fieldsOf t).toList, f.name ≠ "_" :=
  List.forall_mem_cons.2 ⟨⟨Tryz.stoodInHeld7, Tryz.eqGuardType7, by simp [Program.fieldsOf, Tryz.underlying7]⟩, List.forall_mem_cons.2 ⟨⟨Tryz.stoodInHeld8, Tryz.eqGuardType8, by simp [Program.fieldsOf, Tryz.underlying8]⟩, List.forall_mem_cons.2 ⟨⟨Tryz.stoodInHeld23, Tryz.eqGuardType23, by simp [Program.fieldsOf, Tryz.underlying23]⟩, List.forall_mem_cons.2 ⟨⟨Tryz.stoodInHeld24, Tryz.eqGuardType24, by simp [Program.fieldsOf, Tryz.underlying24]⟩, List.forall_mem_cons.2 ⟨⟨Tryz.stoodInHeld27, Tryz.eqGuardType27, by simp [Program.fieldsOf, Tryz.underlying27]⟩, List.forall_mem_cons.2 ⟨⟨Tryz.stoodInHeld28, Tryz.eqGuardType28, by simp [Program.fieldsOf, Tryz.underlying28]⟩, List.forall_mem_cons.2 ⟨⟨Tryz.stoodInHeld35, Tryz.eqGuardType35, by simp [Program.fieldsOf, Tryz.underlying35]⟩, List.forall_mem_cons.2 ⟨⟨Tryz.stoodInHeld38, Tryz.eqGuardType38, by simp [Program.fieldsOf, Tryz.underlying38]⟩, List.forall_mem_cons.2 ⟨⟨Tryz.stoodInHeld39, Tryz.eqGuardType39, by simp [Program.fieldsOf, Tryz.underlying39]⟩, List.forall_mem_cons.2 ⟨⟨Tryz.stoodInHeld40, Tryz.eqGuardType40, by simp [Program.fieldsOf, Tryz.underlying40]⟩, List.forall_mem_cons.2 ⟨⟨Tryz.stoodInHeld41, Tryz.eqGuardType41, by simp [Program.fieldsOf, Tryz.underlying41]⟩, List.forall_mem_cons.2 ⟨⟨Tryz.stoodInHeld57, Tryz.eqGuardType57, by simp [Program.fieldsOf, Tryz.underlying57]⟩, List.forall_mem_cons.2 ⟨⟨Tryz.stoodInHeld58, Tryz.eqGuardType58, by simp [Program.fieldsOf, Tryz.underlying58]⟩, List.forall_mem_cons.2 ⟨⟨Tryz.stoodInHeld61, Tryz.eqGuardType61, by simp [Program.fieldsOf, Tryz.underlying61]⟩, List.forall_mem_cons.2 ⟨⟨Tryz.stoodInHeld68, Tryz.eqGuardType68, by simp [Program.fieldsOf, Tryz.underlying68]⟩, List.forall_mem_cons.2 ⟨⟨Tryz.stoodInHeld70, Tryz.eqGuardType70, by simp [Program.fieldsOf, Tryz.underlying70]⟩, List.forall_mem_cons.2 ⟨⟨Tryz.stoodInHeld132, Tryz.eqGuardType132, by simp [Program.fieldsOf, Tryz.underlying132]⟩, List.forall_mem_cons.2 ⟨⟨Tryz.stoodInHeld133, Tryz.eqGuardType133, by simp [Program.fieldsOf, Tryz.underlying133]⟩, List.forall_mem_cons.2 ⟨⟨Tryz.stoodInHeld181, Tryz.eqGuardType181, by simp [Program.fieldsOf, Tryz.underlying181]⟩, List.forall_mem_cons.2 ⟨⟨Tryz.stoodInHeld182, Tryz.eqGuardType182, by simp [Program.fieldsOf, Tryz.underlying182]⟩, List.forall_mem_cons.2 ⟨⟨Tryz.stoodInHeld184, Tryz.eqGuardType184, by simp [Program.fieldsOf, Tryz.underlying184]⟩, List.forall_mem_cons.2 ⟨⟨Tryz.stoodInHeld185, Tryz.eqGuardType185, by simp [Program.fieldsOf, Tryz.underlying185]⟩, fun _ h => nomatch h⟩⟩⟩⟩⟩⟩⟩⟩⟩⟩⟩⟩⟩⟩⟩⟩⟩⟩⟩⟩⟩⟩
theorem mths_ok : ∀ r ∈ mths, MRowOk Tryz.prog r :=
  fun _ h => nomatch h
noncomputable def tb0 : Tb := tbOf tys fns eqs (hkL []) mths
theorem tb0_ok : TbOk Tryz.prog tb0 := tbOf_ok tys_ok fns_ok eqs_ok (by kernel_rfl) mths_ok
theorem tb0_hook (n : Nat) : CallOk Tryz.prog (tb0.from n) tb0.hook := hkL_ok (T := tb0.from n) (hs := []) (fun _ h => nomatch h)
noncomputable def hks : List (FuncId × HookF) := [(138, idxH), (117, cntH), (57, joinH)]
noncomputable def tb : Tb := tbOf tys fns eqs (hkL hks) mths
theorem hks_ok : ∀ p ∈ hks, HookOk Tryz.prog tb.sz tb.lo p.1 p.2 :=
  List.forall_mem_cons.2 ⟨idx_ok Tryz.func138 (by kernel_rfl) (by kernel_rfl) (by kernel_rfl) (by kernel_rfl), List.forall_mem_cons.2 ⟨cnt_ok Tryz.func117 (by kernel_rfl) (by kernel_rfl) (by kernel_rfl) (by kernel_rfl), List.forall_mem_cons.2 ⟨join_ok (T := tb) Tryz.strings_Join Tryz.call57, fun _ h => nomatch h⟩⟩⟩
theorem tb_ok : TbOk Tryz.prog tb := tbOf_ok tys_ok fns_ok eqs_ok (by kernel_rfl) mths_ok
theorem hook_ok : CallOk Tryz.prog tb tb.hook := hkL_ok hks_ok
end Go.Proofs.YtfpioijfocmfcaaGreatDoor.Ev

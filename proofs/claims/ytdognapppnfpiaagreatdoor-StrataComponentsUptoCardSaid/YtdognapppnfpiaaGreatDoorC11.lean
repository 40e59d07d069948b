/- A part of the proof: walks of the code and laws that they use (Ty, Du, Dv, Wa, Wb, Wc, Wd, We, Wf, Wg, Wh, Wi, Wj, Wk, Wl, Wm, Wn, Wo, Wp, Wq). Conditions: as each theorem names them. -/
import Derived.Test.YtdognapppnfpiaaGreatDoorProg
import Derived.Test.YtdognapppnfpiaaGreatDoorC10
section
set_option maxRecDepth 100000
namespace Go.AM.Tryd
open Go Go.AM
noncomputable abbrev PR : Program := Go.Proofs.Tryz.prog
abbrev d1 : TypeDesc := (Go.TypeDesc.func #[] #[] false)
abbrev i1 : Nat := 1
abbrev zs1 : List AV := [.lit Value.nilFunc]
theorem z1 : ZeroF PR 1 zs1 := .mk_ (z := Go.Value.nilFunc) (by kernel_rfl) rfl rfl
abbrev d2 : TypeDesc := (Go.TypeDesc.int Go.IntKind.i64)
abbrev i2 : Nat := 2
abbrev zs2 : List AV := [.lit (Value.int Go.IntKind.i64 0)]
theorem z2 : ZeroF PR 2 zs2 := .mk_ (z := (Go.Value.int Go.IntKind.i64 0)) (by kernel_rfl) rfl rfl
abbrev d3 : TypeDesc := (Go.TypeDesc.int Go.IntKind.i64)
abbrev i3 : Nat := 3
theorem ty3 : TyF PR 3 d3 1 := .mk_ Go.Proofs.Tryz.underlying3 (by kernel_rfl)
theorem un3 : PR.underlying 3 = some d3 := Go.Proofs.Tryz.underlying3
abbrev T3 : TyI PR 3 := ⟨d3, 1, ty3⟩
abbrev zs3 : List AV := [.lit (Value.int Go.IntKind.i64 0)]
theorem z3 : ZeroF PR 3 zs3 := .mk_ (z := (Go.Value.int Go.IntKind.i64 0)) (by kernel_rfl) rfl rfl
abbrev zv3 : AV := .lit (Value.int Go.IntKind.i64 0)
theorem zw3 : ZeroV PR 3 zv3 := .mk_ (z := (Go.Value.int Go.IntKind.i64 0)) (by kernel_rfl) rfl
theorem by3 : (PR.info? 3).map (·.bytes) = some 8 := by kernel_rfl
abbrev d4 : TypeDesc := Go.TypeDesc.bool
abbrev i4 : Nat := 4
theorem ty4 : TyF PR 4 d4 1 := .mk_ Go.Proofs.Tryz.underlying4 (by kernel_rfl)
abbrev T4 : TyI PR 4 := ⟨d4, 1, ty4⟩
abbrev zs4 : List AV := [.lit (Value.bool false)]
theorem z4 : ZeroF PR 4 zs4 := .mk_ (z := (Go.Value.bool false)) (by kernel_rfl) rfl rfl
theorem by4 : (PR.info? 4).map (·.bytes) = some 1 := by kernel_rfl
abbrev d5 : TypeDesc := (Go.TypeDesc.int Go.IntKind.u8)
theorem ty5 : TyF PR 5 d5 1 := .mk_ Go.Proofs.Tryz.underlying5 (by kernel_rfl)
theorem un5 : PR.underlying 5 = some d5 := Go.Proofs.Tryz.underlying5
abbrev zs5 : List AV := [.lit (Value.int Go.IntKind.u8 0)]
theorem z5 : ZeroF PR 5 zs5 := .mk_ (z := (Go.Value.int Go.IntKind.u8 0)) (by kernel_rfl) rfl rfl
abbrev d9 : TypeDesc := Go.TypeDesc.string
abbrev i9 : Nat := 9
theorem ty9 : TyF PR 9 d9 1 := .mk_ Go.Proofs.Tryz.underlying9 (by kernel_rfl)
theorem un9 : PR.underlying 9 = some d9 := Go.Proofs.Tryz.underlying9
abbrev T9 : TyI PR 9 := ⟨d9, 1, ty9⟩
abbrev zs9 : List AV := [.lit (Value.string ⟨#[]⟩)]
theorem z9 : ZeroF PR 9 zs9 := .mk_ (z := (Go.Value.string ⟨#[]⟩)) (by kernel_rfl) rfl rfl
theorem by9 : (PR.info? 9).map (·.bytes) = some 16 := by kernel_rfl
abbrev d22 : TypeDesc := (Go.TypeDesc.slice 41)
abbrev i22 : Nat := 22
theorem un22 : PR.underlying 22 = some d22 := Go.Proofs.Tryz.underlying22
abbrev zs22 : List AV := [.sl .nil 0 []]
theorem z22 : ZeroF PR 22 zs22 := .mk_ (z := (Go.Value.slice none 0 0)) (by kernel_rfl) rfl rfl
abbrev d52 : TypeDesc := (Go.TypeDesc.slice 31)
theorem un52 : PR.underlying 25 = some d52 := Go.Proofs.Tryz.underlying25
abbrev d29 : TypeDesc := (Go.TypeDesc.int Go.IntKind.i64)
theorem ty29 : TyF PR 26 d29 1 := .mk_ Go.Proofs.Tryz.underlying26 (by kernel_rfl)
abbrev zs29 : List AV := [.lit (Value.int Go.IntKind.i64 0)]
theorem z29 : ZeroF PR 26 zs29 := .mk_ (z := (Go.Value.int Go.IntKind.i64 0)) (by kernel_rfl) rfl rfl
abbrev d37 : TypeDesc := (Go.TypeDesc.slice 34)
theorem ty37 : TyF PR 31 d37 1 := .mk_ Go.Proofs.Tryz.underlying31 (by kernel_rfl)
theorem un37 : PR.underlying 31 = some d37 := Go.Proofs.Tryz.underlying31
abbrev T37 : TyI PR 31 := ⟨d37, 1, ty37⟩
abbrev zs37 : List AV := [.sl .nil 0 []]
theorem z37 : ZeroF PR 31 zs37 := .mk_ (z := (Go.Value.slice none 0 0)) (by kernel_rfl) rfl rfl
theorem by37 : (PR.info? 31).map (·.bytes) = some 24 := by kernel_rfl
abbrev d23 : TypeDesc := (Go.TypeDesc.int Go.IntKind.i64)
abbrev i23 : Nat := 32
theorem ty23 : TyF PR 32 d23 1 := .mk_ Go.Proofs.Tryz.underlying32 (by kernel_rfl)
abbrev T23 : TyI PR 32 := ⟨d23, 1, ty23⟩
abbrev zs24 : List AV := [.lit (Value.int Go.IntKind.i64 0), .lit (Value.string ⟨#[]⟩), .lit (Value.string ⟨#[]⟩)]
theorem z24 : ZeroF PR 33 zs24 := .mk_ (z := (Go.Value.agg #[(Go.Value.int Go.IntKind.i64 0), (Go.Value.string ⟨#[]⟩), (Go.Value.string ⟨#[]⟩)])) (by kernel_rfl) rfl rfl
abbrev d25 : TypeDesc := (Go.TypeDesc.struct #[{ name := "Kind", type := 32, offset := 0, embedded := false, tag := "", pkgPath := "", byteOffset := 0 }, { name := "Text", type := 9, offset := 1, embedded := false, tag := "", pkgPath := "", byteOffset := 8 }, { name := "Extra", type := 9, offset := 2, embedded := false, tag := "", pkgPath := "", byteOffset := 24 }])
abbrev i25 : Nat := 34
theorem ty25 : TyF PR 34 d25 3 := .mk_ Go.Proofs.Tryz.underlying34 (by kernel_rfl)
abbrev T25 : TyI PR 34 := ⟨d25, 3, ty25⟩
abbrev zs25 : List AV := [.lit (Value.int Go.IntKind.i64 0), .lit (Value.string ⟨#[]⟩), .lit (Value.string ⟨#[]⟩)]
theorem z25 : ZeroF PR 34 zs25 := .mk_ (z := (Go.Value.agg #[(Go.Value.int Go.IntKind.i64 0), (Go.Value.string ⟨#[]⟩), (Go.Value.string ⟨#[]⟩)])) (by kernel_rfl) rfl rfl
theorem by25 : (PR.info? 34).map (·.bytes) = some 40 := by kernel_rfl
abbrev d41 : TypeDesc := (Go.TypeDesc.struct #[{ name := "Var", type := 9, offset := 0, embedded := false, tag := "", pkgPath := "", byteOffset := 0 }, { name := "Term", type := 34, offset := 1, embedded := false, tag := "", pkgPath := "", byteOffset := 16 }])
abbrev i41 : Nat := 36
theorem ty41 : TyF PR 36 d41 4 := .mk_ Go.Proofs.Tryz.underlying36 (by kernel_rfl)
abbrev T41 : TyI PR 36 := ⟨d41, 4, ty41⟩
abbrev zs41 : List AV := [.lit (Value.string ⟨#[]⟩), .lit (Value.int Go.IntKind.i64 0), .lit (Value.string ⟨#[]⟩), .lit (Value.string ⟨#[]⟩)]
theorem z41 : ZeroF PR 36 zs41 := .mk_ (z := (Go.Value.agg #[(Go.Value.string ⟨#[]⟩), (Go.Value.int Go.IntKind.i64 0), (Go.Value.string ⟨#[]⟩), (Go.Value.string ⟨#[]⟩)])) (by kernel_rfl) rfl rfl
theorem al41 : AllocF PR 36 d41 4 zs41 := ⟨ty41, z41, rfl⟩
theorem by41 : (PR.info? 36).map (·.bytes) = some 56 := by kernel_rfl
abbrev d43 : TypeDesc := (Go.TypeDesc.array 3 36)
abbrev i43 : Nat := 38
theorem ty43 : TyF PR 38 d43 12 := .mk_ Go.Proofs.Tryz.underlying38 (by kernel_rfl)
theorem un43 : PR.underlying 38 = some d43 := Go.Proofs.Tryz.underlying38
abbrev T43 : TyI PR 38 := ⟨d43, 12, ty43⟩
abbrev zs43 : List AV := [.lit (Value.string ⟨#[]⟩), .lit (Value.int Go.IntKind.i64 0), .lit (Value.string ⟨#[]⟩), .lit (Value.string ⟨#[]⟩), .lit (Value.string ⟨#[]⟩), .lit (Value.int Go.IntKind.i64 0), .lit (Value.string ⟨#[]⟩), .lit (Value.string ⟨#[]⟩), .lit (Value.string ⟨#[]⟩), .lit (Value.int Go.IntKind.i64 0), .lit (Value.string ⟨#[]⟩), .lit (Value.string ⟨#[]⟩)]
theorem z43 : ZeroF PR 38 zs43 := .mk_ (z := (Go.Value.agg #[(Go.Value.string ⟨#[]⟩), (Go.Value.int Go.IntKind.i64 0), (Go.Value.string ⟨#[]⟩), (Go.Value.string ⟨#[]⟩), (Go.Value.string ⟨#[]⟩), (Go.Value.int Go.IntKind.i64 0), (Go.Value.string ⟨#[]⟩), (Go.Value.string ⟨#[]⟩), (Go.Value.string ⟨#[]⟩), (Go.Value.int Go.IntKind.i64 0), (Go.Value.string ⟨#[]⟩), (Go.Value.string ⟨#[]⟩)])) (by kernel_rfl) rfl rfl
abbrev d44 : TypeDesc := (Go.TypeDesc.slice 70)
abbrev i44 : Nat := 39
theorem ty44 : TyF PR 39 d44 1 := .mk_ Go.Proofs.Tryz.underlying39 (by kernel_rfl)
theorem un44 : PR.underlying 39 = some d44 := Go.Proofs.Tryz.underlying39
abbrev T44 : TyI PR 39 := ⟨d44, 1, ty44⟩
abbrev zs45 : List AV := [.lit (Value.string ⟨#[]⟩), .lit (Value.int Go.IntKind.i64 0), .lit (Value.string ⟨#[]⟩), .lit (Value.string ⟨#[]⟩), .lit (Value.string ⟨#[]⟩), .lit (Value.int Go.IntKind.i64 0), .lit (Value.string ⟨#[]⟩), .lit (Value.string ⟨#[]⟩), .lit (Value.string ⟨#[]⟩), .lit (Value.int Go.IntKind.i64 0), .lit (Value.string ⟨#[]⟩), .lit (Value.string ⟨#[]⟩), .sl .nil 0 []]
theorem z45 : ZeroF PR 40 zs45 := .mk_ (z := (Go.Value.agg #[(Go.Value.string ⟨#[]⟩), (Go.Value.int Go.IntKind.i64 0), (Go.Value.string ⟨#[]⟩), (Go.Value.string ⟨#[]⟩), (Go.Value.string ⟨#[]⟩), (Go.Value.int Go.IntKind.i64 0), (Go.Value.string ⟨#[]⟩), (Go.Value.string ⟨#[]⟩), (Go.Value.string ⟨#[]⟩), (Go.Value.int Go.IntKind.i64 0), (Go.Value.string ⟨#[]⟩), (Go.Value.string ⟨#[]⟩), (Go.Value.slice none 0 0)])) (by kernel_rfl) rfl rfl
abbrev d46 : TypeDesc := (Go.TypeDesc.struct #[{ name := "Head", type := 38, offset := 0, embedded := false, tag := "", pkgPath := "", byteOffset := 0 }, { name := "Body", type := 39, offset := 12, embedded := false, tag := "", pkgPath := "", byteOffset := 168 }])
abbrev i46 : Nat := 41
theorem ty46 : TyF PR 41 d46 13 := .mk_ Go.Proofs.Tryz.underlying41 (by kernel_rfl)
abbrev T46 : TyI PR 41 := ⟨d46, 13, ty46⟩
abbrev zs46 : List AV := [.lit (Value.string ⟨#[]⟩), .lit (Value.int Go.IntKind.i64 0), .lit (Value.string ⟨#[]⟩), .lit (Value.string ⟨#[]⟩), .lit (Value.string ⟨#[]⟩), .lit (Value.int Go.IntKind.i64 0), .lit (Value.string ⟨#[]⟩), .lit (Value.string ⟨#[]⟩), .lit (Value.string ⟨#[]⟩), .lit (Value.int Go.IntKind.i64 0), .lit (Value.string ⟨#[]⟩), .lit (Value.string ⟨#[]⟩), .sl .nil 0 []]
theorem z46 : ZeroF PR 41 zs46 := .mk_ (z := (Go.Value.agg #[(Go.Value.string ⟨#[]⟩), (Go.Value.int Go.IntKind.i64 0), (Go.Value.string ⟨#[]⟩), (Go.Value.string ⟨#[]⟩), (Go.Value.string ⟨#[]⟩), (Go.Value.int Go.IntKind.i64 0), (Go.Value.string ⟨#[]⟩), (Go.Value.string ⟨#[]⟩), (Go.Value.string ⟨#[]⟩), (Go.Value.int Go.IntKind.i64 0), (Go.Value.string ⟨#[]⟩), (Go.Value.string ⟨#[]⟩), (Go.Value.slice none 0 0)])) (by kernel_rfl) rfl rfl
theorem al46 : AllocF PR 41 d46 13 zs46 := ⟨ty46, z46, rfl⟩
abbrev d28 : TypeDesc := (Go.TypeDesc.slice 46)
theorem ty28 : TyF PR 42 d28 1 := .mk_ Go.Proofs.Tryz.underlying42 (by kernel_rfl)
theorem un28 : PR.underlying 42 = some d28 := Go.Proofs.Tryz.underlying42
abbrev T28 : TyI PR 42 := ⟨d28, 1, ty28⟩
abbrev zs28 : List AV := [.sl .nil 0 []]
theorem z28 : ZeroF PR 42 zs28 := .mk_ (z := (Go.Value.slice none 0 0)) (by kernel_rfl) rfl rfl
theorem al28 : AllocF PR 42 d28 1 zs28 := ⟨ty28, z28, rfl⟩
abbrev d32 : TypeDesc := (Go.TypeDesc.slice 3)
abbrev i32 : Nat := 46
theorem ty32 : TyF PR 46 d32 1 := .mk_ Go.Proofs.Tryz.underlying46 (by kernel_rfl)
theorem un32 : PR.underlying 46 = some d32 := Go.Proofs.Tryz.underlying46
abbrev T32 : TyI PR 46 := ⟨d32, 1, ty32⟩
abbrev zs32 : List AV := [.sl .nil 0 []]
theorem z32 : ZeroF PR 46 zs32 := .mk_ (z := (Go.Value.slice none 0 0)) (by kernel_rfl) rfl rfl
theorem al32 : AllocF PR 46 d32 1 zs32 := ⟨ty32, z32, rfl⟩
theorem by32 : (PR.info? 46).map (·.bytes) = some 24 := by kernel_rfl
abbrev d72 : TypeDesc := (Go.TypeDesc.struct #[{ name := "Equality", type := 4, offset := 0, embedded := false, tag := "", pkgPath := "", byteOffset := 0 }])
theorem ty72 : TyF PR 48 d72 1 := .mk_ Go.Proofs.Tryz.underlying48 (by kernel_rfl)
abbrev zs72 : List AV := [.lit (Value.bool false)]
theorem z72 : ZeroF PR 48 zs72 := .mk_ (z := (Go.Value.agg #[(Go.Value.bool false)])) (by kernel_rfl) rfl rfl
theorem al72 : AllocF PR 48 d72 1 zs72 := ⟨ty72, z72, rfl⟩
abbrev d56 : TypeDesc := (Go.TypeDesc.pointer 57)
theorem ty56 : TyF PR 51 d56 1 := .mk_ Go.Proofs.Tryz.underlying51 (by kernel_rfl)
abbrev T56 : TyI PR 51 := ⟨d56, 1, ty56⟩
abbrev zs56 : List AV := [.lit (Value.pointer none)]
theorem z56 : ZeroF PR 51 zs56 := .mk_ (z := (Go.Value.pointer none)) (by kernel_rfl) rfl rfl
theorem al56 : AllocF PR 51 d56 1 zs56 := ⟨ty56, z56, rfl⟩
abbrev zs76 : List AV := [.lit Value.nilFunc]
theorem z76 : ZeroF PR 53 zs76 := .mk_ (z := Go.Value.nilFunc) (by kernel_rfl) rfl rfl
abbrev d59 : TypeDesc := (Go.TypeDesc.map 34 3)
abbrev i59 : Nat := 54
theorem ty59 : TyF PR 54 d59 1 := .mk_ Go.Proofs.Tryz.underlying54 (by kernel_rfl)
theorem un59 : PR.underlying 54 = some d59 := Go.Proofs.Tryz.underlying54
abbrev T59 : TyI PR 54 := ⟨d59, 1, ty59⟩
abbrev d60 : TypeDesc := (Go.TypeDesc.slice 62)
theorem ty60 : TyF PR 55 d60 1 := .mk_ Go.Proofs.Tryz.underlying55 (by kernel_rfl)
theorem un60 : PR.underlying 55 = some d60 := Go.Proofs.Tryz.underlying55
abbrev T60 : TyI PR 55 := ⟨d60, 1, ty60⟩
abbrev zs62 : List AV := [.sl .nil 0 [], .lit (Value.map none), .sl .nil 0 []]
theorem z62 : ZeroF PR 57 zs62 := .mk_ (z := (Go.Value.agg #[(Go.Value.slice none 0 0), (Go.Value.map none), (Go.Value.slice none 0 0)])) (by kernel_rfl) rfl rfl
abbrev zs77 : List AV := [.lit Value.nilFunc]
theorem z77 : ZeroF PR 58 zs77 := .mk_ (z := Go.Value.nilFunc) (by kernel_rfl) rfl rfl
abbrev d80 : TypeDesc := (Go.TypeDesc.slice 4)
theorem ty80 : TyF PR 61 d80 1 := .mk_ Go.Proofs.Tryz.underlying61 (by kernel_rfl)
theorem un80 : PR.underlying 61 = some d80 := Go.Proofs.Tryz.underlying61
abbrev T80 : TyI PR 61 := ⟨d80, 1, ty80⟩
abbrev zs80 : List AV := [.sl .nil 0 []]
theorem z80 : ZeroF PR 61 zs80 := .mk_ (z := (Go.Value.slice none 0 0)) (by kernel_rfl) rfl rfl
theorem al80 : AllocF PR 61 d80 1 zs80 := ⟨ty80, z80, rfl⟩
abbrev d81 : TypeDesc := (Go.TypeDesc.slice 64)
theorem ty81 : TyF PR 62 d81 1 := .mk_ Go.Proofs.Tryz.underlying62 (by kernel_rfl)
theorem un81 : PR.underlying 62 = some d81 := Go.Proofs.Tryz.underlying62
abbrev T81 : TyI PR 62 := ⟨d81, 1, ty81⟩
abbrev zs81 : List AV := [.sl .nil 0 []]
theorem z81 : ZeroF PR 62 zs81 := .mk_ (z := (Go.Value.slice none 0 0)) (by kernel_rfl) rfl rfl
theorem by81 : (PR.info? 62).map (·.bytes) = some 24 := by kernel_rfl
abbrev d83 : TypeDesc := (Go.TypeDesc.struct #[{ name := "to", type := 3, offset := 0, embedded := false, tag := "", pkgPath := "rhizome/strata", byteOffset := 0 }, { name := "strict", type := 4, offset := 1, embedded := false, tag := "", pkgPath := "rhizome/strata", byteOffset := 8 }])
theorem ty83 : TyF PR 64 d83 2 := .mk_ Go.Proofs.Tryz.underlying64 (by kernel_rfl)
abbrev T83 : TyI PR 64 := ⟨d83, 2, ty83⟩
abbrev zs83 : List AV := [.lit (Value.int Go.IntKind.i64 0), .lit (Value.bool false)]
theorem z83 : ZeroF PR 64 zs83 := .mk_ (z := (Go.Value.agg #[(Go.Value.int Go.IntKind.i64 0), (Go.Value.bool false)])) (by kernel_rfl) rfl rfl
theorem al83 : AllocF PR 64 d83 2 zs83 := ⟨ty83, z83, rfl⟩
theorem by83 : (PR.info? 64).map (·.bytes) = some 16 := by kernel_rfl
abbrev d66 : TypeDesc := (Go.TypeDesc.int Go.IntKind.i64)
abbrev i66 : Nat := 68
theorem ty66 : TyF PR 68 d66 1 := .mk_ Go.Proofs.Tryz.underlying68 (by kernel_rfl)
abbrev T66 : TyI PR 68 := ⟨d66, 1, ty66⟩
abbrev zs66 : List AV := [.lit (Value.int Go.IntKind.i64 0)]
theorem z66 : ZeroF PR 68 zs66 := .mk_ (z := (Go.Value.int Go.IntKind.i64 0)) (by kernel_rfl) rfl rfl
abbrev d68 : TypeDesc := (Go.TypeDesc.struct #[{ name := "Kind", type := 68, offset := 0, embedded := false, tag := "", pkgPath := "", byteOffset := 0 }, { name := "Pattern", type := 38, offset := 1, embedded := false, tag := "", pkgPath := "", byteOffset := 8 }, { name := "A", type := 36, offset := 13, embedded := false, tag := "", pkgPath := "", byteOffset := 176 }, { name := "B", type := 36, offset := 17, embedded := false, tag := "", pkgPath := "", byteOffset := 232 }])
abbrev i68 : Nat := 70
theorem ty68 : TyF PR 70 d68 21 := .mk_ Go.Proofs.Tryz.underlying70 (by kernel_rfl)
abbrev T68 : TyI PR 70 := ⟨d68, 21, ty68⟩
abbrev zs68 : List AV := [.lit (Value.int Go.IntKind.i64 0), .lit (Value.string ⟨#[]⟩), .lit (Value.int Go.IntKind.i64 0), .lit (Value.string ⟨#[]⟩), .lit (Value.string ⟨#[]⟩), .lit (Value.string ⟨#[]⟩), .lit (Value.int Go.IntKind.i64 0), .lit (Value.string ⟨#[]⟩), .lit (Value.string ⟨#[]⟩), .lit (Value.string ⟨#[]⟩), .lit (Value.int Go.IntKind.i64 0), .lit (Value.string ⟨#[]⟩), .lit (Value.string ⟨#[]⟩), .lit (Value.string ⟨#[]⟩), .lit (Value.int Go.IntKind.i64 0), .lit (Value.string ⟨#[]⟩), .lit (Value.string ⟨#[]⟩), .lit (Value.string ⟨#[]⟩), .lit (Value.int Go.IntKind.i64 0), .lit (Value.string ⟨#[]⟩), .lit (Value.string ⟨#[]⟩)]
theorem z68 : ZeroF PR 70 zs68 := .mk_ (z := (Go.Value.agg #[(Go.Value.int Go.IntKind.i64 0), (Go.Value.string ⟨#[]⟩), (Go.Value.int Go.IntKind.i64 0), (Go.Value.string ⟨#[]⟩), (Go.Value.string ⟨#[]⟩), (Go.Value.string ⟨#[]⟩), (Go.Value.int Go.IntKind.i64 0), (Go.Value.string ⟨#[]⟩), (Go.Value.string ⟨#[]⟩), (Go.Value.string ⟨#[]⟩), (Go.Value.int Go.IntKind.i64 0), (Go.Value.string ⟨#[]⟩), (Go.Value.string ⟨#[]⟩), (Go.Value.string ⟨#[]⟩), (Go.Value.int Go.IntKind.i64 0), (Go.Value.string ⟨#[]⟩), (Go.Value.string ⟨#[]⟩), (Go.Value.string ⟨#[]⟩), (Go.Value.int Go.IntKind.i64 0), (Go.Value.string ⟨#[]⟩), (Go.Value.string ⟨#[]⟩)])) (by kernel_rfl) rfl rfl
theorem al68 : AllocF PR 70 d68 21 zs68 := ⟨ty68, z68, rfl⟩
theorem by68 : (PR.info? 70).map (·.bytes) = some 288 := by kernel_rfl
abbrev zs39 : List AV := [.lit Value.nilFunc]
theorem z39 : ZeroF PR 73 zs39 := .mk_ (z := Go.Value.nilFunc) (by kernel_rfl) rfl rfl
abbrev zs70 : List AV := [.lit Value.nilFunc]
theorem z70 : ZeroF PR 77 zs70 := .mk_ (z := Go.Value.nilFunc) (by kernel_rfl) rfl rfl
abbrev d96 : TypeDesc := (Go.TypeDesc.struct #[{ name := "p", type := 3, offset := 0, embedded := false, tag := "", pkgPath := "rhizome/strata", byteOffset := 0 }, { name := "next", type := 3, offset := 1, embedded := false, tag := "", pkgPath := "rhizome/strata", byteOffset := 8 }])
theorem ty96 : TyF PR 84 d96 2 := .mk_ Go.Proofs.Tryz.underlying84 (by kernel_rfl)
abbrev T96 : TyI PR 84 := ⟨d96, 2, ty96⟩
abbrev zs96 : List AV := [.lit (Value.int Go.IntKind.i64 0), .lit (Value.int Go.IntKind.i64 0)]
theorem z96 : ZeroF PR 84 zs96 := .mk_ (z := (Go.Value.agg #[(Go.Value.int Go.IntKind.i64 0), (Go.Value.int Go.IntKind.i64 0)])) (by kernel_rfl) rfl rfl
theorem by96 : (PR.info? 84).map (·.bytes) = some 16 := by kernel_rfl
abbrev d97 : TypeDesc := (Go.TypeDesc.slice 84)
theorem un97 : PR.underlying 85 = some d97 := Go.Proofs.Tryz.underlying85
abbrev d90 : TypeDesc := (Go.TypeDesc.slice 9)
theorem un90 : PR.underlying 92 = some d90 := Go.Proofs.Tryz.underlying92
abbrev d108 : TypeDesc := (Go.TypeDesc.map 9 102)
theorem ty108 : TyF PR 98 d108 1 := .mk_ Go.Proofs.Tryz.underlying98 (by kernel_rfl)
theorem un108 : PR.underlying 98 = some d108 := Go.Proofs.Tryz.underlying98
abbrev T108 : TyI PR 98 := ⟨d108, 1, ty108⟩
abbrev zs108 : List AV := [.lit (Value.map none)]
theorem z108 : ZeroF PR 98 zs108 := .mk_ (z := (Go.Value.map none)) (by kernel_rfl) rfl rfl
theorem al108 : AllocF PR 98 d108 1 zs108 := ⟨ty108, z108, rfl⟩
abbrev zs112 : List AV := [.lit (Value.bool false)]
theorem z112 : ZeroF PR 102 zs112 := .mk_ (z := (Go.Value.agg #[(Go.Value.bool false)])) (by kernel_rfl) rfl rfl
abbrev zv112 : AV := .agg zs112
theorem zw112 : ZeroV PR 102 zv112 := .mk_ (z := (Go.Value.agg #[(Go.Value.bool false)])) (by kernel_rfl) rfl
abbrev d106 : TypeDesc := (Go.TypeDesc.slice 36)
theorem un106 : PR.underlying 121 = some d106 := Go.Proofs.Tryz.underlying121
abbrev d139 : TypeDesc := (Go.TypeDesc.func #[34] #[4] false)
theorem un139 : PR.underlying 137 = some d139 := Go.Proofs.Tryz.underlying137
abbrev zv139 : AV := .lit Value.nilFunc
theorem zw139 : ZeroV PR 137 zv139 := .mk_ (z := Go.Value.nilFunc) (by kernel_rfl) rfl
abbrev d151 : TypeDesc := (Go.TypeDesc.map 32 137)
theorem un151 : PR.underlying 141 = some d151 := Go.Proofs.Tryz.underlying141
abbrev d147 : TypeDesc := (Go.TypeDesc.slice 149)
theorem un147 : PR.underlying 143 = some d147 := Go.Proofs.Tryz.underlying143
abbrev d155 : TypeDesc := (Go.TypeDesc.struct #[{ name := "At", type := 3, offset := 0, embedded := false, tag := "", pkgPath := "", byteOffset := 0 }, { name := "R", type := 3, offset := 1, embedded := false, tag := "", pkgPath := "", byteOffset := 8 }])
theorem ty155 : TyF PR 149 d155 2 := .mk_ Go.Proofs.Tryz.underlying149 (by kernel_rfl)
abbrev zs155 : List AV := [.lit (Value.int Go.IntKind.i64 0), .lit (Value.int Go.IntKind.i64 0)]
theorem z155 : ZeroF PR 149 zs155 := .mk_ (z := (Go.Value.agg #[(Go.Value.int Go.IntKind.i64 0), (Go.Value.int Go.IntKind.i64 0)])) (by kernel_rfl) rfl rfl
theorem by155 : (PR.info? 149).map (·.bytes) = some 16 := by kernel_rfl
abbrev d50 : TypeDesc := (Go.TypeDesc.slice 5)
theorem un50 : PR.underlying 155 = some d50 := Go.Proofs.Tryz.underlying155
abbrev zs50 : List AV := [.sl .nil 0 []]
theorem z50 : ZeroF PR 155 zs50 := .mk_ (z := (Go.Value.slice none 0 0)) (by kernel_rfl) rfl rfl
abbrev zs55 : List AV := [.lit Value.nilFunc]
theorem z55 : ZeroF PR 158 zs55 := .mk_ (z := Go.Value.nilFunc) (by kernel_rfl) rfl rfl
abbrev L22 : SlI PR 22 := ⟨41, T46, un22⟩
abbrev L52 : SlI PR 25 := ⟨31, T37, un52⟩
abbrev L37 : SlI PR 31 := ⟨34, T25, un37⟩
abbrev A43 : ArI PR 38 := ⟨3, 36, T41, un43⟩
abbrev L44 : SlI PR 39 := ⟨70, T68, un44⟩
abbrev L28 : SlI PR 42 := ⟨46, T32, un28⟩
abbrev L32 : SlI PR 46 := ⟨3, T3, un32⟩
abbrev L60 : SlI PR 55 := ⟨62, T81, un60⟩
abbrev L80 : SlI PR 61 := ⟨4, T4, un80⟩
abbrev L81 : SlI PR 62 := ⟨64, T83, un81⟩
abbrev L97 : SlI PR 85 := ⟨84, T96, un97⟩
abbrev L90 : SlI PR 92 := ⟨9, T9, un90⟩
abbrev L106 : SlI PR 121 := ⟨36, T41, un106⟩
theorem f25_0 : FieldF PR 34 0 0 32 := .mk_ Go.Proofs.Tryz.underlying34 rfl rfl rfl (m := 1) (by kernel_rfl) rfl
abbrev F25_0 : FlI PR 34 0 := ⟨0, 32, T23, f25_0⟩
theorem f25_1 : FieldF PR 34 1 1 9 := .mk_ Go.Proofs.Tryz.underlying34 rfl rfl rfl (m := 1) (by kernel_rfl) rfl
abbrev F25_1 : FlI PR 34 1 := ⟨1, 9, T9, f25_1⟩
theorem f25_2 : FieldF PR 34 2 2 9 := .mk_ Go.Proofs.Tryz.underlying34 rfl rfl rfl (m := 1) (by kernel_rfl) rfl
abbrev F25_2 : FlI PR 34 2 := ⟨2, 9, T9, f25_2⟩
theorem pl25 : PlaceF PR 34 [(0, 1), (1, 1), (2, 1)] := ⟨_, Go.Proofs.Tryz.underlying34, fun w => by simp [run_sizeOf' ty9, run_sizeOf' ty23]⟩
theorem f41_0 : FieldF PR 36 0 0 9 := .mk_ Go.Proofs.Tryz.underlying36 rfl rfl rfl (m := 1) (by kernel_rfl) rfl
abbrev F41_0 : FlI PR 36 0 := ⟨0, 9, T9, f41_0⟩
theorem f41_1 : FieldF PR 36 1 1 34 := .mk_ Go.Proofs.Tryz.underlying36 rfl rfl rfl (m := 3) (by kernel_rfl) rfl
abbrev F41_1 : FlI PR 36 1 := ⟨1, 34, T25, f41_1⟩
theorem pl41 : PlaceF PR 36 [(0, 1), (1, 3)] := ⟨_, Go.Proofs.Tryz.underlying36, fun w => by simp [run_sizeOf' ty9, run_sizeOf' ty25]⟩
theorem f46_0 : FieldF PR 41 0 0 38 := .mk_ Go.Proofs.Tryz.underlying41 rfl rfl rfl (m := 12) (by kernel_rfl) rfl
abbrev F46_0 : FlI PR 41 0 := ⟨0, 38, T43, f46_0⟩
theorem f46_1 : FieldF PR 41 1 12 39 := .mk_ Go.Proofs.Tryz.underlying41 rfl rfl rfl (m := 1) (by kernel_rfl) rfl
abbrev F46_1 : FlI PR 41 1 := ⟨12, 39, T44, f46_1⟩
theorem pl46 : PlaceF PR 41 [(0, 12), (12, 1)] := ⟨_, Go.Proofs.Tryz.underlying41, fun w => by simp [run_sizeOf' ty43, run_sizeOf' ty44]⟩
theorem pl72 : PlaceF PR 48 [(0, 1)] := ⟨_, Go.Proofs.Tryz.underlying48, fun w => by simp [run_sizeOf' ty4]⟩
theorem f62_0 : FieldF PR 57 0 0 31 := .mk_ Go.Proofs.Tryz.underlying57 rfl rfl rfl (m := 1) (by kernel_rfl) rfl
abbrev F62_0 : FlI PR 57 0 := ⟨0, 31, T37, f62_0⟩
theorem f62_1 : FieldF PR 57 1 1 54 := .mk_ Go.Proofs.Tryz.underlying57 rfl rfl rfl (m := 1) (by kernel_rfl) rfl
abbrev F62_1 : FlI PR 57 1 := ⟨1, 54, T59, f62_1⟩
theorem f62_2 : FieldF PR 57 2 2 55 := .mk_ Go.Proofs.Tryz.underlying57 rfl rfl rfl (m := 1) (by kernel_rfl) rfl
abbrev F62_2 : FlI PR 57 2 := ⟨2, 55, T60, f62_2⟩
theorem pl62 : PlaceF PR 57 [(0, 1), (1, 1), (2, 1)] := ⟨_, Go.Proofs.Tryz.underlying57, fun w => by simp [run_sizeOf' ty37, run_sizeOf' ty59, run_sizeOf' ty60]⟩
theorem f83_0 : FieldF PR 64 0 0 3 := .mk_ Go.Proofs.Tryz.underlying64 rfl rfl rfl (m := 1) (by kernel_rfl) rfl
abbrev F83_0 : FlI PR 64 0 := ⟨0, 3, T3, f83_0⟩
theorem f83_1 : FieldF PR 64 1 1 4 := .mk_ Go.Proofs.Tryz.underlying64 rfl rfl rfl (m := 1) (by kernel_rfl) rfl
abbrev F83_1 : FlI PR 64 1 := ⟨1, 4, T4, f83_1⟩
theorem pl83 : PlaceF PR 64 [(0, 1), (1, 1)] := ⟨_, Go.Proofs.Tryz.underlying64, fun w => by simp [run_sizeOf' ty3, run_sizeOf' ty4]⟩
theorem f68_0 : FieldF PR 70 0 0 68 := .mk_ Go.Proofs.Tryz.underlying70 rfl rfl rfl (m := 1) (by kernel_rfl) rfl
abbrev F68_0 : FlI PR 70 0 := ⟨0, 68, T66, f68_0⟩
theorem f68_1 : FieldF PR 70 1 1 38 := .mk_ Go.Proofs.Tryz.underlying70 rfl rfl rfl (m := 12) (by kernel_rfl) rfl
abbrev F68_1 : FlI PR 70 1 := ⟨1, 38, T43, f68_1⟩
theorem f68_2 : FieldF PR 70 2 13 36 := .mk_ Go.Proofs.Tryz.underlying70 rfl rfl rfl (m := 4) (by kernel_rfl) rfl
abbrev F68_2 : FlI PR 70 2 := ⟨13, 36, T41, f68_2⟩
theorem f68_3 : FieldF PR 70 3 17 36 := .mk_ Go.Proofs.Tryz.underlying70 rfl rfl rfl (m := 4) (by kernel_rfl) rfl
abbrev F68_3 : FlI PR 70 3 := ⟨17, 36, T41, f68_3⟩
theorem pl68 : PlaceF PR 70 [(0, 1), (1, 12), (13, 4), (17, 4)] := ⟨_, Go.Proofs.Tryz.underlying70, fun w => by simp [run_sizeOf' ty41, run_sizeOf' ty43, run_sizeOf' ty66]⟩
theorem f96_0 : FieldF PR 84 0 0 3 := .mk_ Go.Proofs.Tryz.underlying84 rfl rfl rfl (m := 1) (by kernel_rfl) rfl
abbrev F96_0 : FlI PR 84 0 := ⟨0, 3, T3, f96_0⟩
theorem f96_1 : FieldF PR 84 1 1 3 := .mk_ Go.Proofs.Tryz.underlying84 rfl rfl rfl (m := 1) (by kernel_rfl) rfl
abbrev F96_1 : FlI PR 84 1 := ⟨1, 3, T3, f96_1⟩
theorem pl96 : PlaceF PR 84 [(0, 1), (1, 1)] := ⟨_, Go.Proofs.Tryz.underlying84, fun w => by simp [run_sizeOf' ty3]⟩
theorem f112_0 : FieldF PR 102 0 0 4 := .mk_ Go.Proofs.Tryz.underlying102 rfl rfl rfl (m := 1) (by kernel_rfl) rfl
theorem pl112 : PlaceF PR 102 [(0, 1)] := ⟨_, Go.Proofs.Tryz.underlying102, fun w => by simp [run_sizeOf' ty4]⟩
theorem pl155 : PlaceF PR 149 [(0, 1), (1, 1)] := ⟨_, Go.Proofs.Tryz.underlying149, fun w => by simp [run_sizeOf' ty3]⟩
abbrev ks9 : List CK := [.str]
theorem eq9 (d : Nat) : EqT PR (d + 1) 9 false ks9 := EqT_str d Go.Proofs.Tryz.underlying9
theorem ck9 (d : Nat) : CkT PR (d + 1) 9 false ks9 := CkT_plain d Go.Proofs.Tryz.underlying9 (.inl rfl)
theorem eqm9 : EqT PR 10000 9 false ks9 := eq9 9999
theorem key9 : KeyF PR 9 false ks9 := ⟨⟨_, Go.Proofs.Tryz.underlying9, .inr ⟨rfl, .inl ⟨rfl, rfl⟩⟩⟩, eqm9, ck9 9999⟩
abbrev ks23 : List CK := [.int .i64]
theorem eq23 (d : Nat) : EqT PR (d + 1) 32 false ks23 := EqT_int d Go.Proofs.Tryz.underlying32
theorem ck23 (d : Nat) : CkT PR (d + 1) 32 false ks23 := CkT_plain d Go.Proofs.Tryz.underlying32 (.inr (.inr ⟨_, rfl⟩))
theorem eqm23 : EqT PR 10000 32 false ks23 := eq23 9999
theorem key23 : KeyF PR 32 false ks23 := ⟨⟨_, Go.Proofs.Tryz.underlying32, .inr ⟨rfl, .inr (.inr ⟨_, rfl, rfl⟩)⟩⟩, eqm23, ck23 9999⟩
abbrev ks25 : List CK := ks23 ++ (ks9 ++ (ks9 ++ []))
theorem eq25 (d : Nat) : EqT PR (d + 2) 34 true ks25 := EqT_struct (d + 1) Go.Proofs.Tryz.underlying34 (by kernel_rfl) (.cons (by decide) rfl (by decide) ty23 (by intro h; first | rfl | cases h) (eq23 (d + 0)) (.cons (by decide) rfl (by decide) ty9 (by intro h; first | rfl | cases h) (eq9 (d + 0)) (.cons (by decide) rfl (by decide) ty9 (by intro h; first | rfl | cases h) (eq9 (d + 0)) (.nil _))))
theorem ck25 (d : Nat) : CkT PR (d + 2) 34 true ks25 := CkT_struct (d + 1) Go.Proofs.Tryz.underlying34 (.cons rfl (by decide) ty23 (by intro h; first | rfl | cases h) (ck23 (d + 0)) (.cons rfl (by decide) ty9 (by intro h; first | rfl | cases h) (ck9 (d + 0)) (.cons rfl (by decide) ty9 (by intro h; first | rfl | cases h) (ck9 (d + 0)) (.nil _))))
theorem eg25 : PR.eqGuardType PR.depth 34 = false := by kernel_rfl
theorem eqm25 : EqT PR 10000 34 true ks25 := eq25 9998
theorem key25 : KeyF PR 34 true ks25 := ⟨⟨_, Go.Proofs.Tryz.underlying34, .inl ⟨rfl, rfl⟩⟩, eqm25, ck25 9998⟩
abbrev ks41 : List CK := ks9 ++ (ks25 ++ [])
theorem eq41 (d : Nat) : EqT PR (d + 3) 36 true ks41 := EqT_struct (d + 2) Go.Proofs.Tryz.underlying36 (by kernel_rfl) (.cons (by decide) rfl (by decide) ty9 (by intro h; first | rfl | cases h) (eq9 (d + 1)) (.cons (by decide) rfl (by decide) ty25 (by intro h; first | rfl | cases h) (eq25 (d + 0)) (.nil _)))
theorem eg41 : PR.eqGuardType PR.depth 36 = false := by kernel_rfl
theorem eqm41 : EqT PR 10000 36 true ks41 := eq41 9997
abbrev ks43 : List CK := (List.replicate 3 ks41).flatten
theorem eq43 (d : Nat) : EqT PR (d + 4) 38 true ks43 := EqT_array (d + 3) Go.Proofs.Tryz.underlying38 ty41 (by intro h; first | rfl | cases h) (eq41 (d + 0))
theorem eg43 : PR.eqGuardType PR.depth 38 = false := by kernel_rfl
theorem eqm43 : EqT PR 10000 38 true ks43 := eq43 9996
abbrev ks66 : List CK := [.int .i64]
theorem eq66 (d : Nat) : EqT PR (d + 1) 68 false ks66 := EqT_int d Go.Proofs.Tryz.underlying68
abbrev ks68 : List CK := ks66 ++ (ks43 ++ (ks41 ++ (ks41 ++ [])))
theorem eq68 (d : Nat) : EqT PR (d + 5) 70 true ks68 := EqT_struct (d + 4) Go.Proofs.Tryz.underlying70 (by kernel_rfl) (.cons (by decide) rfl (by decide) ty66 (by intro h; first | rfl | cases h) (eq66 (d + 3)) (.cons (by decide) rfl (by decide) ty43 (by intro h; first | rfl | cases h) (eq43 (d + 0)) (.cons (by decide) rfl (by decide) ty41 (by intro h; first | rfl | cases h) (eq41 (d + 1)) (.cons (by decide) rfl (by decide) ty41 (by intro h; first | rfl | cases h) (eq41 (d + 1)) (.nil _)))))
theorem eg68 : PR.eqGuardType PR.depth 70 = false := by kernel_rfl
theorem eqm68 : EqT PR 10000 70 true ks68 := eq68 9995
end Go.AM.Tryd
end
section
namespace Go.AM.D
open Go Go.AM
def eI64 (n : Int) : List AV := [.lit (.int .i64 n)]
def eU8 (n : Int) : List AV := [.lit (.int .u8 n)]
def eI32 (n : Int) : List AV := [.lit (.int .i32 n)]
def eStr (s : ByteArray) : List AV := [.lit (.string s)]
def eBool (b : Bool) : List AV := [.lit (.bool b)]
section
variable {P : Program} {ρ : Option Nat} {Q : Exit → AS → Prop} {o : Oper} {n : Nat} {tm : List (Nat × AV)} {h h0 : Heap} {ms : List Nat} {σ : AS}
theorem ret_le2 {fn : Func} {u v : AV} {e : Exit} (he : e = .ret ∨ e = .normal) (hv : ares fn ⟨n, tm, h, [], h0⟩ = some u) (huv : u = v) (hh : h0.le h) : retQ fn h0 (fun a h' => a = v ∧ h0.le h') e ⟨n, tm, h, [], h0⟩ :=
  ret_le he (huv ▸ hv) hh
theorem PO_eqv {b b' : Bool} (hp : PO P ρ o σ (.lit (.bool b))) (e : b = b') : PO P ρ o σ (.lit (.bool b')) := e ▸ hp
end
theorem PO_eqI {P : Program} {ρ : Option Nat} {o : Oper} {σ : AS} {k : IntKind} {b b' : Int} (hp : PO P ρ o σ (.lit (.int k b))) (e : b = b') : PO P ρ o σ (.lit (.int k b')) := e ▸ hp
structure Rune where
  pos : Int
  r : Int
def eRune (r : Rune) : List AV := [.lit (.int .i64 r.pos), .lit (.int .i64 r.r)]
theorem vEq_str (a b : ByteArray) : vEq (.string a) (.string b) = decide (a = b) := rfl
theorem vEq_int (k k' : IntKind) (a b : Int) : vEq (.int k a) (.int k' b) = decide (a = b) := rfl
theorem dand {p q r : Prop} [Decidable p] [Decidable q] [Decidable r] (h : r ↔ p ∧ q) : (decide p && decide q) = decide r := by
  by_cases hp : p <;> by_cases hq : q <;> simp [h, hp, hq]
theorem eTerm_eq (a b : Term) : vEqs [.int .i64 a.kind, .string a.text, .string a.extra] [.int .i64 b.kind, .string b.text, .string b.extra] = decide (a = b) := by
  obtain ⟨a1, a2, a3⟩ := a; obtain ⟨b1, b2, b3⟩ := b
  simp only [vEqs, vEq_str, vEq_int, Bool.and_true, Term.mk.injEq, Bool.decide_and]
theorem eTerm_ne (a b : Term) : (!vEqs [.int .i64 a.kind, .string a.text, .string a.extra] [.int .i64 b.kind, .string b.text, .string b.extra]) = decide (a ≠ b) := by
  rw [eTerm_eq]; simp
theorem eSlot_eq (a b : Slot) : vEqs [.string a.var, .int .i64 a.term.kind, .string a.term.text, .string a.term.extra] [.string b.var, .int .i64 b.term.kind, .string b.term.text, .string b.term.extra] = decide (a = b) := by
  obtain ⟨a0, a1, a2, a3⟩ := a; obtain ⟨b0, b1, b2, b3⟩ := b
  simp only [vEqs, vEq_str, vEq_int, Bool.and_true, Term.mk.injEq, Slot.mk.injEq, Bool.decide_and]
theorem eSlot_ne (a b : Slot) : (!vEqs [.string a.var, .int .i64 a.term.kind, .string a.term.text, .string a.term.extra] [.string b.var, .int .i64 b.term.kind, .string b.term.text, .string b.term.extra]) = decide (a ≠ b) := by
  rw [eSlot_eq]; simp
abbrev cPat (p : Pat) : List Value := [.string p.a.var, .int .i64 p.a.term.kind, .string p.a.term.text, .string p.a.term.extra,
  .string p.b.var, .int .i64 p.b.term.kind, .string p.b.term.text, .string p.b.term.extra,
  .string p.c.var, .int .i64 p.c.term.kind, .string p.c.term.text, .string p.c.term.extra]
theorem ePat_eq (a b : Pat) : vEqs (cPat a) (cPat b) = decide (a = b) := by
  obtain ⟨⟨a0, a1, a2, a3⟩, ⟨b0, b1, b2, b3⟩, ⟨c0, c1, c2, c3⟩⟩ := a
  obtain ⟨⟨x0, x1, x2, x3⟩, ⟨y0, y1, y2, y3⟩, ⟨z0, z1, z2, z3⟩⟩ := b
  simp only [vEqs, vEq_str, vEq_int, Bool.and_true, Term.mk.injEq, Slot.mk.injEq, Pat.mk.injEq, Bool.decide_and, Bool.and_assoc]
theorem ePat_ne (a b : Pat) : (!vEqs (cPat a) (cPat b)) = decide (a ≠ b) := by
  rw [ePat_eq]; simp
abbrev cSlot (s : Slot) : List Value := [.string s.var, .int .i64 s.term.kind, .string s.term.text, .string s.term.extra]
theorem eLit_eq (a b : Lt) : vEqs (.int .i64 a.kind :: (cPat a.pat ++ (cSlot a.a ++ cSlot a.b))) (.int .i64 b.kind :: (cPat b.pat ++ (cSlot b.a ++ cSlot b.b))) = decide (a = b) := by
  obtain ⟨k, ⟨⟨a0, a1, a2, a3⟩, ⟨b0, b1, b2, b3⟩, ⟨c0, c1, c2, c3⟩⟩, ⟨d0, d1, d2, d3⟩, ⟨e0, e1, e2, e3⟩⟩ := a
  obtain ⟨l, ⟨⟨x0, x1, x2, x3⟩, ⟨y0, y1, y2, y3⟩, ⟨z0, z1, z2, z3⟩⟩, ⟨v0, v1, v2, v3⟩, ⟨w0, w1, w2, w3⟩⟩ := b
  simp only [cPat, cSlot, List.cons_append, List.nil_append, vEqs, vEq_str, vEq_int, Bool.and_true, Term.mk.injEq, Slot.mk.injEq, Pat.mk.injEq, Lt.mk.injEq, Bool.decide_and, Bool.and_assoc]
theorem eLit_ne (a b : Lt) : (!vEqs (.int .i64 a.kind :: (cPat a.pat ++ (cSlot a.a ++ cSlot a.b))) (.int .i64 b.kind :: (cPat b.pat ++ (cSlot b.a ++ cSlot b.b)))) = decide (a ≠ b) := by
  rw [eLit_eq]; simp
end Go.AM.D
namespace Go.AM.Tryd
theorem hmixed : PR.follows .mixedOrders = true := by kernel_rfl
open Go.AM.D
theorem q25 (a b : Term) : AE PR i25 .eql (eTerm a) (eTerm b) (decide (a = b)) := ⟨_, _, _, eqm25, eg25, rfl, rfl, rfl, rfl, .inl ⟨rfl, eTerm_eq a b⟩⟩
theorem r25 (a b : Term) : AE PR i25 .neq (eTerm a) (eTerm b) (decide (a ≠ b)) := ⟨_, _, _, eqm25, eg25, rfl, rfl, rfl, rfl, .inr ⟨rfl, eTerm_ne a b⟩⟩
theorem q41 (a b : Slot) : AE PR i41 .eql (eSlot a) (eSlot b) (decide (a = b)) := ⟨_, _, _, eqm41, eg41, rfl, rfl, rfl, rfl, .inl ⟨rfl, eSlot_eq a b⟩⟩
theorem r41 (a b : Slot) : AE PR i41 .neq (eSlot a) (eSlot b) (decide (a ≠ b)) := ⟨_, _, _, eqm41, eg41, rfl, rfl, rfl, rfl, .inr ⟨rfl, eSlot_ne a b⟩⟩
theorem q43 (a b : Pat) : AE PR i43 .eql (ePat a) (ePat b) (decide (a = b)) := ⟨_, _, _, eqm43, eg43, rfl, rfl, rfl, rfl, .inl ⟨rfl, ePat_eq a b⟩⟩
theorem r43 (a b : Pat) : AE PR i43 .neq (ePat a) (ePat b) (decide (a ≠ b)) := ⟨_, _, _, eqm43, eg43, rfl, rfl, rfl, rfl, .inr ⟨rfl, ePat_ne a b⟩⟩
theorem q68 (a b : Lt) : AE PR i68 .eql (eLit a) (eLit b) (decide (a = b)) := ⟨_, _, _, eqm68, eg68, rfl, rfl, rfl, rfl, .inl ⟨rfl, eLit_eq a b⟩⟩
theorem r68 (a b : Lt) : AE PR i68 .neq (eLit a) (eLit b) (decide (a ≠ b)) := ⟨_, _, _, eqm68, eg68, rfl, rfl, rfl, rfl, .inr ⟨rfl, eLit_ne a b⟩⟩
end Go.AM.Tryd
end
section
namespace Go.AM.D
open Go Go.AM
theorem drop_at {α : Type} {l : List α} {i : Nat} (h : i < l.length) : ∃ r, l[i]? = some r ∧ l.drop i = r :: l.drop (i + 1) ∧ r ∈ l :=
  ⟨l[i], List.getElem?_eq_getElem h, List.drop_eq_getElem_cons h, List.getElem_mem h⟩
theorem drop_end {α : Type} {l : List α} {i : Nat} (h : l.length ≤ i) : l.drop i = [] := List.drop_of_length_le h
def bys (s : ByteArray) : List UInt8 := s.data.toList
theorem bsize (s : ByteArray) : (bys s).length = s.size := Array.length_toList
theorem bget {s : ByteArray} {i : Nat} {c : UInt8} (h : (bys s)[i]? = some c) : s[((i : Nat) : Int).toNat]? = some c := by
  have hi : i < s.size := by
    rw [← bsize]; exact (List.getElem?_eq_some_iff.1 h).1
  rw [Int.toNat_natCast]
  rw [getElem?_pos s i hi]
  rw [bys, Array.getElem?_toList] at h
  have : s.data[i]? = some s[i] := by
    rw [Array.getElem?_eq_getElem (hi)]; rfl
  rw [this] at h
  exact h
theorem bytes_inj {a b : ByteArray} (h : bys a = bys b) : a = b := by
  obtain ⟨a⟩ := a; obtain ⟨b⟩ := b
  simp only [bys] at h
  rw [ByteArray.mk.injEq]; exact Array.toList_inj.1 h
theorem beq_iff {a b : ByteArray} : a = b ↔ bys a = bys b := ⟨fun h => h ▸ rfl, bytes_inj⟩
def okT (t : Term) : Prop := t.text.size ≤ 1048576 ∧ t.extra.size ≤ 1048576
def okS (s : Slot) : Prop := s.var.size ≤ 1048576 ∧ okT s.term
def okP (p : Pat) : Prop := okS p.a ∧ okS p.b ∧ okS p.c
def okL (l : Lt) : Prop := okP l.pat ∧ okS l.a ∧ okS l.b
def okR (r : Rule) : Prop := okP r.head ∧ r.body.length ≤ 1048576 ∧ ∀ l ∈ r.body, okL l
def okRs (l : List Rule) : Prop := l.length ≤ 1048576 ∧ ∀ r ∈ l, okR r
end Go.AM.D
end
section
set_option maxRecDepth 100000
set_option maxHeartbeats 4000000
set_option linter.unusedVariables false
set_option linter.unusedSimpArgs false
namespace Go.AM.Tryd
open Go Go.AM Go.AM.D
def letterF (c : Int) : Bool := (decide (c ≥ 65) && decide (c ≤ 90)) || (decide (c ≥ 97) && decide (c ≤ 122))
def digitF (c : Int) : Bool := decide (c ≥ 48) && decide (c ≤ 57)
theorem letter86_ (c : Int) : PFn PR (.fn (.func 89) [] []) [.lit (.int .u8 c)] (.lit (.bool (letterF c))) := by
  refine PFn_of Go.Proofs.Tryz.func89 rfl (by rfl) Go.Proofs.Tryz.ntmps89 rfl (by simp) fun h => ?_
  refine AW_x [] [] ?_
  refine ⟨_, fun hg5 => rfl, _, fun hg9 => ⟨_, fun hg12 => rfl, rfl⟩, ?_⟩
  exact AW_ret (ret_le2 (.inl rfl) rfl rfl (.refl _))
theorem letter108_ (c : Int) : PFn PR (.fn (.func 107) [] []) [.lit (.int .u8 c)] (.lit (.bool (letterF c))) := by
  refine PFn_of Go.Proofs.Tryz.func107 rfl (by rfl) Go.Proofs.Tryz.ntmps107 rfl (by simp) fun h => ?_
  refine AW_x [] [] ?_
  refine ⟨_, fun hg5 => rfl, _, fun hg9 => ⟨_, fun hg12 => rfl, rfl⟩, ?_⟩
  exact AW_ret (ret_le2 (.inl rfl) rfl rfl (.refl _))
theorem digit87_ (c : Int) : PFn PR (.fn (.func 90) [] []) [.lit (.int .u8 c)] (.lit (.bool (digitF c))) := by
  refine PFn_of Go.Proofs.Tryz.func90 rfl (by rfl) Go.Proofs.Tryz.ntmps90 rfl (by simp) fun h => ?_
  refine AW_x [] [] ?_
  refine ⟨_, fun hg5 => rfl, ?_⟩
  exact AW_ret (ret_le2 (.inl rfl) rfl rfl (.refl _))
theorem digit109_ (c : Int) : PFn PR (.fn (.func 108) [] []) [.lit (.int .u8 c)] (.lit (.bool (digitF c))) := by
  refine PFn_of Go.Proofs.Tryz.func108 rfl (by rfl) Go.Proofs.Tryz.ntmps108 rfl (by simp) fun h => ?_
  refine AW_x [] [] ?_
  refine ⟨_, fun hg5 => rfl, ?_⟩
  exact AW_ret (ret_le2 (.inl rfl) rfl rfl (.refl _))
def mayF (r : Int) : Bool := (decide (r ≥ 0) && decide (r ≤ 1114111)) && (decide (r < 55296) || decide (r > 57343))
theorem may103_ (r : Int) : PFn PR (.fn (.func 110) [] []) [.lit (.int .i64 r)] (.lit (.bool (mayF r))) := by
  refine PFn_of Go.Proofs.Tryz.func110 rfl (by rfl) Go.Proofs.Tryz.ntmps110 rfl (by simp) fun h => ?_
  refine AW_x [] [] ?_
  refine ⟨_, fun hg5 => rfl, _, fun hg9 => ⟨_, fun hg12 => rfl, rfl⟩, ?_⟩
  exact AW_ret (ret_le2 (.inl rfl) rfl rfl (.refl _))
theorem may117_ (r : Int) : PFn PR (.fn (.func 118) [] []) [.lit (.int .i64 r)] (.lit (.bool (mayF r))) := by
  refine PFn_of Go.Proofs.Tryz.func118 rfl (by rfl) Go.Proofs.Tryz.ntmps118 rfl (by simp) fun h => ?_
  refine AW_x [] [] ?_
  refine ⟨_, fun hg5 => rfl, _, fun hg9 => ⟨_, fun hg12 => rfl, rfl⟩, ?_⟩
  exact AW_ret (ret_le2 (.inl rfl) rfl rfl (.refl _))
def sizeF (r : Int) : Int := if r < 128 then 1 else if r < 2048 then 2 else if r < 65536 then 3 else 4
theorem size_ (r : Int) : PFn PR (.fn (.func 112) [] []) [.lit (.int .i64 r)] (.lit (.int .i64 (sizeF r))) := by
  refine PFn_of Go.Proofs.Tryz.func112 rfl (by rfl) Go.Proofs.Tryz.ntmps112 rfl (by simp) fun h => ?_
  refine AW_x [] [] ?_
  refine brD (fun hc1 => ?_) (fun hc1 => ?_)
  · skip
    exact AW_ret (ret_le2 (.inl rfl) rfl (by simp [sizeF, *]) (.refl _))
  · skip
    refine brD (fun hc3 => ?_) (fun hc3 => ?_)
    · skip
      exact AW_ret (ret_le2 (.inl rfl) rfl (by simp [sizeF, *]) (.refl _))
    · skip
      refine brD (fun hc5 => ?_) (fun hc5 => ?_)
      · skip
        exact AW_ret (ret_le2 (.inl rfl) rfl (by simp [sizeF, *]) (.refl _))
      · skip
        exact AW_ret (ret_le2 (.inl rfl) rfl (by simp [sizeF, *]) (.refl _))
def fewF : List Rule → Bool
  | [] => true
  | r :: l => if 20 < r.body.length then false else fewF l
theorem few_ (l : List Rule) (hl : l.length ≤ 1048576) : PFn PR (.fn (.func 4) [] []) [.sl .any 13 (l.map eRule)] (.lit (.bool (fewF l && decide (l.length ≤ 16)))) := by
  refine PFn_of Go.Proofs.Tryz.func4 rfl (by rfl) Go.Proofs.Tryz.ntmps4 rfl (by simp) fun h => ?_
  refine AW_x [] [] ?_
  refine AW_it [] [] [(0, _), (2, _)] (fun (i : Nat) => [(3, .lit (.int .i64 ((i : Nat) : Int)))]) (fun (i : Nat) => h) (fun (i : Nat) => i ≤ l.length ∧ fewF l = fewF (l.drop i)) (fun (i : Nat) => l.length - i) (0) ⟨rfl, rfl, trivial⟩ ⟨rfl, trivial⟩ rfl (⟨by omega, rfl⟩) ?_
  rintro i ⟨hIi, hSi⟩
  refine ⟨L22, _, lm, brD (fun hc0 => ?_) (fun hc0 => ?_)⟩
  · skip
    obtain ⟨r, hrr, hdr, hmr⟩ := drop_at (l := l) (i := i) (by omega)
    rw [hdr, fewF] at hSi
    refine ⟨L22, _, ⟨rfl, (by first | decide | omega), (mget hrr)⟩, F46_1, T44, L44, _, lm, brD (fun hc4 => ?_) (fun hc4 => ?_)⟩
    · skip
      rw [if_pos (by omega)] at hSi
      exact AW_ret (ret_le2 (.inl rfl) rfl (by rw [hSi]; rfl) (.refl _))
    · skip
      rw [if_neg (by omega)] at hSi
      refine ⟨_, f1 (by first | omega | (simp_all <;> omega)), ?_⟩
      exact ⟨i + 1, ⟨by omega, hSi⟩, by omega, ⟨rfl, ⟨rfl, rfl, rfl, trivial⟩, rfl, rfl, rfl⟩⟩
  · skip
    rw [drop_end (l := l) (i := i) (by omega), fewF] at hSi
    refine ⟨L22, _, lm, ?_⟩
    exact AW_ret (ret_le2 (.inl rfl) rfl (by rw [hSi]; simp; omega) (.refl _))
def atF (t : Term) : List Term → Int → Int
  | [], _ => -1
  | x :: l, i => if x = t then i else atF t l (i + 1)
theorem at_ (own : Own) (l : List Term) (t : Term) (hl : l.length ≤ 4611686018427387904) : PFn PR (.fn (.func 24) [] []) [.sl own 3 (l.map eTerm), .agg (eTerm t)] (.lit (.int .i64 (atF t l 0))) := by
  refine PFn_of Go.Proofs.Tryz.func24 rfl (by rfl) Go.Proofs.Tryz.ntmps24 rfl (by simp) fun h => ?_
  refine AW_x [] [] ?_
  refine AW_it [] [] [(0, _), (3, _), (4, _)] (fun (i : Nat) => [(5, .lit (.int .i64 ((i : Nat) : Int)))]) (fun (i : Nat) => h) (fun (i : Nat) => i ≤ l.length ∧ atF t l 0 = atF t (l.drop i) i) (fun (i : Nat) => l.length - i) (0) ⟨rfl, rfl, rfl, trivial⟩ ⟨rfl, trivial⟩ rfl (⟨by omega, rfl⟩) ?_
  rintro i ⟨hIi, hSi⟩
  refine ⟨L37, _, lm, brD (fun hc0 => ?_) (fun hc0 => ?_)⟩
  · skip
    obtain ⟨x, hrx, hdx, hmx⟩ := drop_at (l := l) (i := i) (by omega)
    rw [hdx, atF] at hSi
    refine ⟨⟨hmixed, by kernel_rfl⟩, L37, _, ⟨rfl, (by first | decide | omega), (mget hrx)⟩, T25, T25, _, q25 x t, brD (fun hc4 => ?_) (fun hc4 => ?_)⟩
    · skip
      rw [if_pos hc4] at hSi
      exact AW_ret (ret_le2 (.inl rfl) rfl (by rw [hSi]) (.refl _))
    · skip
      rw [if_neg hc4] at hSi
      refine ⟨_, f1 (by first | omega | (simp_all <;> omega)), ?_⟩
      exact ⟨i + 1, ⟨by omega, hSi⟩, by omega, ⟨rfl, ⟨rfl, rfl, rfl, rfl, trivial⟩, rfl, rfl, rfl⟩⟩
  · skip
    rw [drop_end (l := l) (i := i) (by omega), atF] at hSi
    exact AW_ret (ret_le2 (.inl rfl) rfl (by rw [hSi]) (.refl _))
def inF (s : ByteArray) : List ByteArray → Bool
  | [] => false
  | x :: l => if x = s then true else inF s l
theorem in34_ (own : Own) (l : List ByteArray) (s : ByteArray) (hl : l.length ≤ 4611686018427387904) : PFn PR (.fn (.func 40) [] []) [.sl own 1 (l.map eStr), .lit (.string s)] (.lit (.bool (inF s l))) := by
  refine PFn_of Go.Proofs.Tryz.func40 rfl (by rfl) Go.Proofs.Tryz.ntmps40 rfl (by simp) fun h => ?_
  refine AW_x [] [] ?_
  refine AW_it [] [] [(0, _), (1, _), (4, _)] (fun (i : Nat) => [(5, .lit (.int .i64 ((i : Nat) : Int)))]) (fun (i : Nat) => h) (fun (i : Nat) => i ≤ l.length ∧ inF s l = inF s (l.drop i)) (fun (i : Nat) => l.length - i) (0) ⟨rfl, rfl, rfl, trivial⟩ ⟨rfl, trivial⟩ rfl (⟨by omega, rfl⟩) ?_
  rintro i ⟨hIi, hSi⟩
  refine ⟨L90, _, lm, brD (fun hc0 => ?_) (fun hc0 => ?_)⟩
  · skip
    obtain ⟨x, hrx, hdx, hmx⟩ := drop_at (l := l) (i := i) (by omega)
    rw [hdx, inF] at hSi
    refine ⟨L90, _, ⟨rfl, (by first | decide | omega), (mget hrx)⟩, T9, brD (fun hc4 => ?_) (fun hc4 => ?_)⟩
    · skip
      rw [if_pos hc4] at hSi
      exact AW_ret (ret_le2 (.inl rfl) rfl (by rw [hSi]) (.refl _))
    · skip
      rw [if_neg hc4] at hSi
      refine ⟨_, f1 (by first | omega | (simp_all <;> omega)), ?_⟩
      exact ⟨i + 1, ⟨by omega, hSi⟩, by omega, ⟨rfl, ⟨rfl, rfl, rfl, rfl, trivial⟩, rfl, rfl, rfl⟩⟩
  · skip
    rw [drop_end (l := l) (i := i) (by omega), inF] at hSi
    exact AW_ret (ret_le2 (.inl rfl) rfl (by rw [hSi]) (.refl _))
def negB : List Lt → Bool
  | [] => false
  | x :: b => if x.kind = 2 then true else negB b
def negF : List Rule → Bool
  | [] => false
  | r :: l => if negB r.body = true then true else negF l
theorem neg17_ (l : List Rule) (hl : okRs l) : PFn PR (.fn (.func 20) [] []) [.sl .any 13 (l.map eRule)] (.lit (.bool (negF l))) := by
  have hl1 := hl.1
  refine PFn_of Go.Proofs.Tryz.func20 rfl (by rfl) Go.Proofs.Tryz.ntmps20 rfl (by simp) fun h => ?_
  refine AW_x [] [] ?_
  refine AW_it [] [] [(0, _), (2, _)] (fun (i : Nat) => [(3, .lit (.int .i64 ((i : Nat) : Int)))]) (fun (i : Nat) => h) (fun (i : Nat) => i ≤ l.length ∧ negF l = negF (l.drop i)) (fun (i : Nat) => l.length - i) (0) ⟨rfl, rfl, trivial⟩ ⟨rfl, trivial⟩ rfl (⟨by omega, rfl⟩) ?_
  rintro i ⟨hIi, hSi⟩
  refine ⟨L22, _, lm, brD (fun hc0 => ?_) (fun hc0 => ?_)⟩
  · skip
    obtain ⟨r, hrr, hdr, hmr⟩ := drop_at (l := l) (i := i) (by omega)
    rw [hdr, negF] at hSi
    have hbl := (hl.2 r hmr).2.1
    refine AW_it [] [] [(3, _), (0, _), (2, _)] (fun (k : Nat) => [(4, .lit (.int .i64 ((k : Nat) : Int)))]) (fun (k : Nat) => h) (fun (k : Nat) => k ≤ r.body.length ∧ negB r.body = negB (r.body.drop k)) (fun (k : Nat) => r.body.length - k) (0) ⟨rfl, rfl, rfl, trivial⟩ ⟨rfl, trivial⟩ rfl (⟨by omega, rfl⟩) ?_
    rintro k ⟨hIk, hSk⟩
    refine ⟨L22, _, ⟨rfl, (by first | decide | omega), (mget hrr)⟩, F46_1, T44, L44, _, lm, brD (fun hc2 => ?_) (fun hc2 => ?_)⟩
    · skip
      obtain ⟨x, hrx, hdx, hmx⟩ := drop_at (l := r.body) (i := k) (by omega)
      rw [hdx, negB] at hSk
      refine ⟨L22, _, ⟨rfl, (by first | decide | omega), (mget hrr)⟩, F46_1, T44, L44, _, ⟨rfl, (by first | decide | omega), (mget hrx)⟩, F68_0, T66, brD (fun hc7 => ?_) (fun hc7 => ?_)⟩
      · skip
        rw [if_pos hc7] at hSk
        rw [if_pos hSk] at hSi
        exact AW_ret (ret_le2 (.inl rfl) rfl (by rw [hSi]) (.refl _))
      · skip
        rw [if_neg hc7] at hSk
        refine ⟨_, f1 (by first | omega | (simp_all <;> omega)), ?_⟩
        exact ⟨k + 1, ⟨by omega, hSk⟩, by omega, ⟨rfl, ⟨rfl, rfl, rfl, rfl, trivial⟩, rfl, rfl, rfl⟩⟩
    · skip
      rw [drop_end (l := r.body) (i := k) (by omega), negB] at hSk
      rw [hSk, if_neg (by simp)] at hSi
      refine ⟨_, f1 (by first | omega | (simp_all <;> omega)), ?_⟩
      exact ⟨i + 1, ⟨by omega, hSi⟩, by omega, ⟨rfl, ⟨rfl, rfl, rfl, trivial⟩, rfl, rfl, rfl⟩⟩
  · skip
    rw [drop_end (l := l) (i := i) (by omega), negF] at hSi
    exact AW_ret (ret_le2 (.inl rfl) rfl (by rw [hSi]) (.refl _))
theorem neg30_ (l : List Rule) (hl : okRs l) : PFn PR (.fn (.func 29) [] []) [.sl .any 13 (l.map eRule)] (.lit (.bool (negF l))) := by
  have hl1 := hl.1
  refine PFn_of Go.Proofs.Tryz.func29 rfl (by rfl) Go.Proofs.Tryz.ntmps29 rfl (by simp) fun h => ?_
  refine AW_x [] [] ?_
  refine ⟨L22, _, lm, ?_⟩
  refine AW_it [] [] [(2, _), (7, _), (8, _)] (fun (i : Nat) => [(9, .lit (.int .i64 ((i : Nat) : Int)))]) (fun (i : Nat) => h) (fun (i : Nat) => i ≤ l.length ∧ negF l = negF (l.drop i)) (fun (i : Nat) => l.length - i) (0) ⟨rfl, rfl, rfl, trivial⟩ ⟨rfl, trivial⟩ rfl (⟨by omega, rfl⟩) ?_
  rintro i ⟨hIi, hSi⟩
  refine brD (fun hc0 => ?_) (fun hc0 => ?_)
  · skip
    obtain ⟨r, hrr, hdr, hmr⟩ := drop_at (l := l) (i := i) (by omega)
    rw [hdr, negF] at hSi
    have hbl := (hl.2 r hmr).2.1
    refine ⟨L22, _, ⟨rfl, (by first | decide | omega), (mget hrr)⟩, T46, ?_⟩
    refine AL_als rfl rfl rfl rfl rfl rfl al46 rfl rfl rfl rfl rfl ?_
    refine AL_nil ?_
    refine ⟨F46_1, T44, L44, _, lm, ?_⟩
    refine AW_it [] [] [(9, _), (2, _), (7, _), (8, _), (14, _), (15, _)] (fun (k : Nat) => [(16, .lit (.int .i64 ((k : Nat) : Int)))]) (fun (k : Nat) => h) (fun (k : Nat) => k ≤ r.body.length ∧ negB r.body = negB (r.body.drop k)) (fun (k : Nat) => r.body.length - k) (0) ⟨rfl, rfl, rfl, rfl, rfl, rfl, trivial⟩ ⟨rfl, trivial⟩ rfl (⟨by omega, rfl⟩) ?_
    rintro k ⟨hIk, hSk⟩
    refine brD (fun hc2 => ?_) (fun hc2 => ?_)
    · skip
      obtain ⟨x, hrx, hdx, hmx⟩ := drop_at (l := r.body) (i := k) (by omega)
      rw [hdx, negB] at hSk
      refine ⟨L44, _, ⟨rfl, (by first | decide | omega), (mget hrx)⟩, T68, ?_⟩
      refine AL_als rfl rfl rfl rfl rfl rfl al68 rfl rfl rfl rfl rfl ?_
      refine AL_nil ?_
      refine ⟨F68_0, T66, brD (fun hc7 => ?_) (fun hc7 => ?_)⟩
      · skip
        rw [if_pos hc7] at hSk
        rw [if_pos hSk] at hSi
        exact AW_ret (ret_le2 (.inl rfl) rfl (by rw [hSi]) (.refl _))
      · skip
        rw [if_neg hc7] at hSk
        refine ⟨_, f1 (by first | omega | (simp_all <;> omega)), ?_⟩
        exact ⟨k + 1, ⟨by omega, hSk⟩, by omega, ⟨rfl, ⟨rfl, rfl, rfl, rfl, rfl, rfl, rfl, trivial⟩, rfl, rfl, rfl⟩⟩
    · skip
      rw [drop_end (l := r.body) (i := k) (by omega), negB] at hSk
      rw [hSk, if_neg (by simp)] at hSi
      refine ⟨_, f1 (by first | omega | (simp_all <;> omega)), ?_⟩
      exact ⟨i + 1, ⟨by omega, hSi⟩, by omega, ⟨rfl, ⟨rfl, rfl, rfl, rfl, trivial⟩, rfl, rfl, rfl⟩⟩
  · skip
    rw [drop_end (l := l) (i := i) (by omega), negF] at hSi
    exact AW_ret (ret_le2 (.inl rfl) rfl (by rw [hSi]) (.refl _))
def hangL (q : Term) (strict : Bool) : List Lt → Bool
  | [] => false
  | x :: b => if ((decide (x.kind = 1) && !strict) && (decide (x.pat.b.var ≠ ⟨#[]⟩) || decide (x.pat.b.term = q))) = true then true else if ((decide (x.kind = 2) && decide (x.pat.b.var = ⟨#[]⟩)) && decide (x.pat.b.term = q)) = true then true else hangL q strict b
def hangF (p q : Term) (strict : Bool) : List Rule → Bool
  | [] => false
  | r :: l => if (decide (r.head.b.var ≠ ⟨#[]⟩) || decide (r.head.b.term ≠ p)) = true then hangF p q strict l else if hangL q strict r.body = true then true else hangF p q strict l
theorem hang_ (l : List Rule) (p q : Term) (strict : Bool) (hl : okRs l) : PFn PR (.fn (.func 42) [] []) [.sl .any 13 (l.map eRule), .agg (eTerm p), .agg (eTerm q), .lit (.bool strict)] (.lit (.bool (hangF p q strict l))) := by
  have hl1 := hl.1
  refine PFn_of Go.Proofs.Tryz.func42 rfl (by rfl) Go.Proofs.Tryz.ntmps42 rfl (by simp) fun h => ?_
  refine AW_x [] [] ?_
  refine AW_it [] [] [(0, _), (3, _), (5, _), (6, _), (8, _)] (fun (i : Nat) => [(9, .lit (.int .i64 ((i : Nat) : Int)))]) (fun (i : Nat) => h) (fun (i : Nat) => i ≤ l.length ∧ hangF p q strict l = hangF p q strict (l.drop i)) (fun (i : Nat) => l.length - i) (0) ⟨rfl, rfl, rfl, rfl, rfl, trivial⟩ ⟨rfl, trivial⟩ rfl (⟨by omega, rfl⟩) ?_
  rintro i ⟨hIi, hSi⟩
  refine ⟨L22, _, lm, brD (fun hc0 => ?_) (fun hc0 => ?_)⟩
  · skip
    obtain ⟨r, hrr, hdr, hmr⟩ := drop_at (l := l) (i := i) (by omega)
    rw [hdr, hangF] at hSi
    have hbl := (hl.2 r hmr).2.1
    refine ⟨⟨hmixed, by kernel_rfl⟩, L22, _, ⟨rfl, (by first | decide | omega), (mget hrr)⟩, F46_0, A43, by decide, F41_0, T9, _, fun hg26 => ⟨L22, _, ⟨rfl, (by first | decide | omega), (mget hrr)⟩, F46_0, A43, by decide, F41_1, T25, T25, _, r25 r.head.b.term p, rfl⟩, fun hc4 => ?_, fun hc4 => ?_⟩
    · skip
      rw [if_pos hc4] at hSi
      refine ⟨_, f1 (by first | omega | (simp_all <;> omega)), ?_⟩
      exact ⟨i + 1, ⟨by omega, hSi⟩, by omega, ⟨rfl, ⟨rfl, rfl, rfl, rfl, rfl, rfl, trivial⟩, rfl, rfl, rfl⟩⟩
    · skip
      rw [if_neg (by rw [hc4]; simp)] at hSi
      refine AW_it [] [] [(9, _), (0, _), (3, _), (5, _), (6, _), (8, _)] (fun (k : Nat) => [(10, .lit (.int .i64 ((k : Nat) : Int)))]) (fun (k : Nat) => h) (fun (k : Nat) => k ≤ r.body.length ∧ hangL q strict r.body = hangL q strict (r.body.drop k)) (fun (k : Nat) => r.body.length - k) (0) ⟨rfl, rfl, rfl, rfl, rfl, rfl, trivial⟩ ⟨rfl, trivial⟩ rfl (⟨by omega, rfl⟩) ?_
      rintro k ⟨hIk, hSk⟩
      refine ⟨L22, _, ⟨rfl, (by first | decide | omega), (mget hrr)⟩, F46_1, T44, L44, _, lm, brD (fun hc2 => ?_) (fun hc2 => ?_)⟩
      · skip
        obtain ⟨x, hrx, hdx, hmx⟩ := drop_at (l := r.body) (i := k) (by omega)
        rw [hdx, hangL] at hSk
        refine ⟨L22, _, ⟨rfl, (by first | decide | omega), (mget hrr)⟩, F46_1, T44, L44, _, ⟨rfl, (by first | decide | omega), (mget hrx)⟩, T68, ?_⟩
        refine AL_als rfl rfl rfl rfl rfl rfl al68 rfl rfl rfl rfl rfl ?_
        refine AL_nil ?_
        refine ⟨F68_0, T66, _, fun hg58 => rfl, _, fun hg62 => ⟨F68_1, A43, by decide, F41_0, T9, _, fun hg68 => ⟨F68_1, A43, by decide, F41_1, T25, T25, _, q25 x.pat.b.term q, rfl⟩, rfl⟩, fun hc9 => ?_, fun hc9 => ?_⟩
        · skip
          rw [if_pos hc9] at hSk
          rw [if_pos hSk] at hSi
          exact AW_ret (ret_le2 (.inl rfl) rfl (by rw [hSi]) (.refl _))
        · skip
          rw [if_neg (by rw [hc9]; simp)] at hSk
          refine ⟨F68_0, T66, _, fun hg80 => ⟨F68_1, A43, by decide, F41_0, T9, rfl⟩, _, fun hg87 => ⟨F68_1, A43, by decide, F41_1, T25, T25, _, q25 x.pat.b.term q, rfl⟩, fun hc11 => ?_, fun hc11 => ?_⟩
          · skip
            rw [if_pos hc11] at hSk
            rw [if_pos hSk] at hSi
            exact AW_ret (ret_le2 (.inl rfl) rfl (by rw [hSi]) (.refl _))
          · skip
            rw [if_neg (by rw [hc11]; simp)] at hSk
            refine ⟨_, f1 (by first | omega | (simp_all <;> omega)), ?_⟩
            exact ⟨k + 1, ⟨by omega, hSk⟩, by omega, ⟨rfl, ⟨rfl, rfl, rfl, rfl, rfl, rfl, rfl, trivial⟩, rfl, rfl, rfl⟩⟩
      · skip
        rw [drop_end (l := r.body) (i := k) (by omega), hangL] at hSk
        rw [hSk, if_neg (by simp)] at hSi
        refine ⟨_, f1 (by first | omega | (simp_all <;> omega)), ?_⟩
        exact ⟨i + 1, ⟨by omega, hSi⟩, by omega, ⟨rfl, ⟨rfl, rfl, rfl, rfl, rfl, rfl, trivial⟩, rfl, rfl, rfl⟩⟩
  · skip
    rw [drop_end (l := l) (i := i) (by omega), hangF] at hSi
    exact AW_ret (ret_le2 (.inl rfl) rfl (by rw [hSi]) (.refl _))
end Go.AM.Tryd
end
section
set_option maxRecDepth 100000
set_option maxHeartbeats 4000000
set_option linter.unusedVariables false
set_option linter.unusedSimpArgs false
namespace Go.AM.Tryd
open Go Go.AM Go.AM.D
def predF : List Rule → List Term → List Term
  | [], acc => acc
  | r :: l, acc => if (decide (r.head.b.var = ⟨#[]⟩) && decide (atF r.head.b.term acc 0 < 0)) = true then predF l (acc ++ [r.head.b.term]) else predF l acc
theorem pred_ (l : List Rule) (hl : l.length ≤ 1048576) : PFn PR (.fn (.func 22) [] []) [.sl .any 13 (l.map eRule)] (.sl .any 3 ((predF l []).map eTerm)) := by
  refine PFn_of Go.Proofs.Tryz.func22 rfl (by rfl) Go.Proofs.Tryz.ntmps22 rfl (by simp) fun h => ?_
  refine AW_x [] [] ?_
  refine ⟨3, 3, ?_⟩
  refine AW_it [] [] [(0, _), (2, _)] (fun (z_ : Nat × List Term × Own × Heap) => match z_ with | (i, acc, own, hp) => [(4, .lit (.int .i64 ((i : Nat) : Int))), (3, .sl own 3 (acc.map eTerm))]) (fun (z_ : Nat × List Term × Own × Heap) => match z_ with | (i, acc, own, hp) => hp) (fun (z_ : Nat × List Term × Own × Heap) => match z_ with | (i, acc, own, hp) => i ≤ l.length ∧ predF l [] = predF (l.drop i) acc ∧ acc.length ≤ i ∧ Grow h 3 acc.length own hp) (fun (z_ : Nat × List Term × Own × Heap) => match z_ with | (i, acc, own, hp) => l.length - i) ((0, [], .nil, h)) ⟨rfl, rfl, trivial⟩ ⟨rfl, rfl, trivial⟩ rfl (⟨by omega, rfl, by simp, Grow.nil _ _ _⟩) ?_
  rintro ⟨i, acc, own, hp⟩ ⟨hIi, hSi, hA, hG⟩
  refine ⟨L22, _, lm, brD (fun hc0 => ?_) (fun hc0 => ?_)⟩
  · skip
    obtain ⟨r, hrr, hdr, hmr⟩ := drop_at (l := l) (i := i) (by omega)
    rw [hdr, predF] at hSi
    refine ⟨L22, _, ⟨rfl, (by first | decide | omega), (mget hrr)⟩, F46_0, A43, by decide, T41, ?_⟩
    refine AL_als rfl rfl rfl rfl rfl rfl al41 rfl rfl rfl rfl rfl ?_
    refine AL_nil ?_
    refine ⟨F41_0, T9, _, fun hg21 => ⟨F41_1, T25, _, (at_ _ _ _ (by first | assumption | omega)), rfl⟩, fun hc6 => ?_, fun hc6 => ?_⟩
    · skip
      rw [if_pos hc6] at hSi
      refine ⟨F41_1, T25, (.sl .full 3 ([r.head.b.term].map eTerm)), PO_buildSlice (n := 1) (S := 3) (rs := eTerm r.head.b.term ++ []) rfl un37 ty25 z25 rfl rfl rfl (by decide) rfl (by decide), ?_⟩
      refine AL_m rfl rfl rfl (MO_grow (acc := acc) (f := eTerm) rfl un37 un37 ty25 z25 rfl by25 rfl rfl (.inl rfl) (by first | omega | simp) hG (by simp; omega) (by simp; omega)) ?_
      rintro _ h1 ⟨own1, rfl, hG1⟩
      refine AL_x [] [] 5 ?_
      refine ⟨_, f1 (by first | omega | (simp_all <;> omega)), ?_⟩
      exact ⟨(i + 1, acc ++ [r.head.b.term], own1, h1), ⟨by omega, hSi, by simp; omega, hG1⟩, by simp; omega, ⟨rfl, ⟨rfl, rfl, rfl, rfl, trivial⟩, rfl, rfl, rfl⟩⟩
    · skip
      rw [if_neg (by rw [hc6]; simp)] at hSi
      refine ⟨_, f1 (by first | omega | (simp_all <;> omega)), ?_⟩
      exact ⟨(i + 1, acc, own, hp), ⟨by omega, hSi, by omega, hG⟩, by simp; omega, ⟨rfl, ⟨rfl, rfl, rfl, rfl, trivial⟩, rfl, rfl, rfl⟩⟩
  · skip
    rw [drop_end (l := l) (i := i) (by omega), predF] at hSi
    refine AW_any (k := 2) rfl ?_
    exact AW_ret (ret_le2 (.inl rfl) rfl (by rw [hSi]) hG.le)
def inbF (c : Int) : List UInt8 → Bool
  | [] => false
  | x :: l => if ((x : UInt8).toNat : Int) = c then true else inbF c l
theorem inb_ (c : Int) (s : ByteArray) (hs : s.size ≤ 1048576) : PFn PR (.fn (.func 93) [] []) [.lit (.int .u8 c), .lit (.string s)] (.lit (.bool (inbF c (bys s)))) := by
  have hsz := bsize s
  refine PFn_of Go.Proofs.Tryz.func93 rfl (by rfl) Go.Proofs.Tryz.ntmps93 rfl (by simp) fun h => ?_
  refine AW_x [] [] ?_
  refine AW_it [] [] [(0, _), (1, _), (4, _)] (fun (i : Nat) => [(5, .lit (.int .i64 ((i : Nat) : Int)))]) (fun (i : Nat) => h) (fun (i : Nat) => i ≤ (bys s).length ∧ inbF c (bys s) = inbF c ((bys s).drop i)) (fun (i : Nat) => (bys s).length - i) (0) ⟨rfl, rfl, rfl, trivial⟩ ⟨rfl, trivial⟩ rfl (⟨by omega, rfl⟩) ?_
  rintro i ⟨hIi, hSi⟩
  refine ⟨un9, brD (fun hc0 => ?_) (fun hc0 => ?_)⟩
  · skip
    obtain ⟨x, hrx, hdx, hmx⟩ := drop_at (l := (bys s)) (i := i) (by omega)
    rw [hdx, inbF] at hSi
    refine ⟨_, ⟨un9, (by first | decide | omega), (bget hrx)⟩, brD (fun hc4 => ?_) (fun hc4 => ?_)⟩
    · skip
      rw [if_pos hc4] at hSi
      exact AW_ret (ret_le2 (.inl rfl) rfl (by rw [hSi]) (.refl _))
    · skip
      rw [if_neg hc4] at hSi
      refine ⟨_, f1 (by first | omega | (simp_all <;> omega)), ?_⟩
      exact ⟨i + 1, ⟨by omega, hSi⟩, by omega, ⟨rfl, ⟨rfl, rfl, rfl, rfl, trivial⟩, rfl, rfl, rfl⟩⟩
  · skip
    rw [drop_end (l := (bys s)) (i := i) (by omega), inbF] at hSi
    exact AW_ret (ret_le2 (.inl rfl) rfl (by rw [hSi]) (.refl _))
def nameB (i : Int) (c : Int) : Bool := ((decide (c < 65) || decide (c > 90)) && (decide (c < 97) || decide (c > 122))) && ((decide (i = 0) || decide (c < 48)) || decide (c > 57))
def nameL : Int → List UInt8 → Bool
  | _, [] => true
  | i, x :: l => if nameB i ((x : UInt8).toNat : Int) = true then false else nameL (i + 1) l
def nameF (s : ByteArray) : Bool := nameL 0 (bys s) && (decide ((s.size : Int) ≥ 1) && decide ((s.size : Int) ≤ 32))
theorem name_ (s : ByteArray) (hs : s.size ≤ 1048576) : PFn PR (.fn (.func 84) [] []) [.lit (.string s)] (.lit (.bool (nameF s))) := by
  have hsz := bsize s
  refine PFn_of Go.Proofs.Tryz.func84 rfl (by rfl) Go.Proofs.Tryz.ntmps84 rfl (by simp) fun h => ?_
  refine AW_x [] [] ?_
  refine ⟨un9, ?_⟩
  refine AW_it [] [] [(0, _), (2, _), (6, _)] (fun (i : Nat) => [(7, .lit (.int .i64 ((i : Nat) : Int)))]) (fun (i : Nat) => h) (fun (i : Nat) => i ≤ (bys s).length ∧ nameL 0 (bys s) = nameL ((i : Nat) : Int) ((bys s).drop i)) (fun (i : Nat) => (bys s).length - i) (0) ⟨rfl, rfl, rfl, trivial⟩ ⟨rfl, trivial⟩ rfl (⟨by omega, rfl⟩) ?_
  rintro i ⟨hIi, hSi⟩
  refine brD (fun hc0 => ?_) (fun hc0 => ?_)
  · skip
    obtain ⟨x, hrx, hdx, hmx⟩ := drop_at (l := (bys s)) (i := i) (by omega)
    rw [hdx, nameL] at hSi
    refine ⟨_, ⟨un9, (by first | decide | omega), (bget hrx)⟩, _, fun hg15 => rfl, _, fun hg19 => ⟨_, fun hg22 => rfl, rfl⟩, _, fun hg27 => ⟨_, fun hg30 => rfl, _, fun hg34 => rfl, rfl⟩, fun hc5 => ?_, fun hc5 => ?_⟩
    · skip
      rw [nameB, if_pos hc5] at hSi
      exact AW_ret (ret_le2 (.inl rfl) rfl (by rw [nameF, hSi]; rfl) (.refl _))
    · skip
      rw [nameB, if_neg (by rw [hc5]; simp)] at hSi
      refine ⟨_, f1 (by first | omega | (simp_all <;> omega)), ?_⟩
      exact ⟨i + 1, ⟨by omega, hSi⟩, by omega, ⟨rfl, ⟨rfl, rfl, rfl, rfl, trivial⟩, rfl, rfl, rfl⟩⟩
  · skip
    rw [drop_end (l := (bys s)) (i := i) (by omega), nameL] at hSi
    refine ⟨un9, _, fun hg43 => ⟨un9, rfl⟩, ?_⟩
    exact AW_ret (ret_le2 (.inl rfl) rfl (by rw [nameF, hSi]; rfl) (.refl _))
def wordL : List UInt8 → Bool
  | [] => true
  | x :: l => if (!letterF ((x : UInt8).toNat : Int) && !digitF ((x : UInt8).toNat : Int)) = true then false else wordL l
def head8 (l : List UInt8) : UInt8 := l.headD 0
theorem head8_get {l : List UInt8} (h : 0 < l.length) : l[0]? = some (head8 l) := by cases l with | nil => simp at h | cons x l => rfl
def wordF (s : ByteArray) (most : Int) : Bool := if ((decide ((s.size : Int) < 1) || decide ((s.size : Int) > most)) || !letterF ((head8 (bys s)).toNat : Int)) = true then false else wordL (bys s)
theorem word_ (s : ByteArray) (most : Int) (hs : s.size ≤ 1048576) : PFn PR (.fn (.func 83) [] []) [.lit (.string s), .lit (.int .i64 most)] (.lit (.bool (wordF s most))) := by
  have hsz := bsize s
  refine PFn_of Go.Proofs.Tryz.func83 rfl (by rfl) Go.Proofs.Tryz.ntmps83 rfl (by simp) fun h => ?_
  refine AW_x [] [] ?_
  refine ⟨un9, _, fun hg9 => ⟨un9, rfl⟩, (!(letterF ((head8 (bys s) : UInt8).toNat : Int)) : Bool), fun hg15 => by
        have hgg := hg15
        simp only [Bool.or_eq_false_iff, decide_eq_false_iff_not] at hgg
        exact ⟨_, ⟨un9, (by first | decide | omega), (bget (i := 0) (head8_get (by omega)))⟩, _, (letter86_ _), rfl⟩, fun hc1 => ?_, fun hc1 => ?_⟩
  · skip
    have hw : wordF s most = false := by rw [wordF, if_pos hc1]
    exact AW_ret (ret_le2 (.inl rfl) rfl (by rw [hw]) (.refl _))
  · skip
    have hw : wordF s most = wordL (bys s) := by rw [wordF, if_neg (by rw [hc1]; simp)]
    refine AW_it [] [] [(0, _), (4, _)] (fun (i : Nat) => [(5, .lit (.int .i64 ((i : Nat) : Int)))]) (fun (i : Nat) => h) (fun (i : Nat) => i ≤ (bys s).length ∧ wordL (bys s) = wordL ((bys s).drop i)) (fun (i : Nat) => (bys s).length - i) (0) ⟨rfl, rfl, trivial⟩ ⟨rfl, trivial⟩ rfl (⟨by omega, rfl⟩) ?_
    rintro i ⟨hIi, hSi⟩
    refine ⟨un9, brD (fun hc0 => ?_) (fun hc0 => ?_)⟩
    · skip
      obtain ⟨x, hrx, hdx, hmx⟩ := drop_at (l := (bys s)) (i := i) (by omega)
      rw [hdx, wordL] at hSi
      refine ⟨_, ⟨un9, (by first | decide | omega), (bget hrx)⟩, _, (letter86_ _), _, fun hg32 => ⟨_, ⟨un9, (by first | decide | omega), (bget hrx)⟩, _, (digit87_ _), rfl⟩, fun hc6 => ?_, fun hc6 => ?_⟩
      · skip
        rw [if_pos hc6] at hSi
        exact AW_ret (ret_le2 (.inl rfl) rfl (by rw [hw, hSi]) (.refl _))
      · skip
        rw [if_neg (by rw [hc6]; simp)] at hSi
        refine ⟨_, f1 (by first | omega | (simp_all <;> omega)), ?_⟩
        exact ⟨i + 1, ⟨by omega, hSi⟩, by omega, ⟨rfl, ⟨rfl, rfl, rfl, trivial⟩, rfl, rfl, rfl⟩⟩
    · skip
      rw [drop_end (l := (bys s)) (i := i) (by omega), wordL] at hSi
      exact AW_ret (ret_le2 (.inl rfl) rfl (by rw [hw, hSi]) (.refl _))
end Go.AM.Tryd
end
section
set_option maxRecDepth 100000
set_option maxHeartbeats 4000000
set_option linter.unusedVariables false
set_option linter.unusedSimpArgs false
namespace Go.AM.Tryd
open Go Go.AM Go.AM.D
def u8 (x : Int) : Int := IntKind.wrap .u8 x
def putI (r : Int) : List Int := if r ≤ 127 then [u8 r] else if r ≤ 2047 then [u8 (192 + r / 64), u8 (128 + r % 64)] else if r ≤ 65535 then [u8 (224 + r / 4096), u8 (128 + r / 64 % 64), u8 (128 + r % 64)] else [u8 (240 + r / 262144), u8 (128 + r / 4096 % 64), u8 (128 + r / 64 % 64), u8 (128 + r % 64)]
theorem mayF_iff {r : Int} (h : mayF r = true) : 0 ≤ r ∧ r ≤ 1114111 := by
  simp only [mayF, Bool.and_eq_true, decide_eq_true_eq] at h; omega
theorem put_ (r : Int) (hm : mayF r = true) : PFn PR (.fn (.func 111) [] []) [.lit (.int .i64 r)] (.sl .any 1 ((putI r).map eU8)) := by
  have hr := mayF_iff hm
  refine PFn_of Go.Proofs.Tryz.func111 rfl (by rfl) Go.Proofs.Tryz.ntmps111 rfl (by simp) fun h => ?_
  refine AW_x [] [] ?_
  refine ⟨1, brD (fun hc1 => ?_) (fun hc1 => ?_)⟩
  · skip
    refine ⟨(.lit (.int .u8 (IntKind.wrap .u8 r))), PO_convInt rfl un3 un5 rfl, (.sl .full 1 ([(IntKind.wrap .u8 r)].map eU8)), PO_buildSlice (n := 1) (S := 1) (rs := [.lit (.int .u8 (IntKind.wrap .u8 r))] ++ []) rfl un50 ty5 z5 rfl rfl rfl (by decide) rfl (by decide), ?_⟩
    refine AW_any (k := 2) rfl ?_
    exact AW_ret (ret_le2 (.inl rfl) rfl (by rw [putI, if_pos (by omega)]; rfl) (.refl _))
  · skip
    refine brD (fun hc3 => ?_) (fun hc3 => ?_)
    · skip
      refine ⟨(r / 64), fz rfl (by simp [divSafe]) (quoE (by omega) (by omega) (by omega)), (192 + (r / 64)), fz rfl trivial (i64w (by omega) (by omega)), (.lit (.int .u8 (IntKind.wrap .u8 (192 + (r / 64))))), PO_convInt rfl un3 un5 rfl, (r % 64), fz rfl (by simp [divSafe]) (tmodE (by omega)), (128 + (r % 64)), fz rfl trivial (i64w (by omega) (by omega)), (.lit (.int .u8 (IntKind.wrap .u8 (128 + (r % 64))))), PO_convInt rfl un3 un5 rfl, (.sl .full 1 ([(IntKind.wrap .u8 (192 + (r / 64))), (IntKind.wrap .u8 (128 + (r % 64)))].map eU8)), PO_buildSlice (n := 2) (S := 1) (rs := [.lit (.int .u8 (IntKind.wrap .u8 (192 + (r / 64))))] ++ ([.lit (.int .u8 (IntKind.wrap .u8 (128 + (r % 64))))] ++ [])) rfl un50 ty5 z5 rfl rfl rfl (by decide) rfl (by decide), ?_⟩
      refine AW_any (k := 2) rfl ?_
      exact AW_ret (ret_le2 (.inl rfl) rfl (by rw [putI, if_neg (by omega), if_pos (by omega)]; rfl) (.refl _))
    · skip
      refine brD (fun hc5 => ?_) (fun hc5 => ?_)
      · skip
        refine ⟨(r / 4096), fz rfl (by simp [divSafe]) (quoE (by omega) (by omega) (by omega)), (224 + (r / 4096)), fz rfl trivial (i64w (by omega) (by omega)), (.lit (.int .u8 (IntKind.wrap .u8 (224 + (r / 4096))))), PO_convInt rfl un3 un5 rfl, (r / 64), fz rfl (by simp [divSafe]) (quoE (by omega) (by omega) (by omega)), ((r / 64) % 64), fz rfl (by simp [divSafe]) (tmodE (by omega)), (128 + ((r / 64) % 64)), fz rfl trivial (i64w (by omega) (by omega)), (.lit (.int .u8 (IntKind.wrap .u8 (128 + ((r / 64) % 64))))), PO_convInt rfl un3 un5 rfl, (r % 64), fz rfl (by simp [divSafe]) (tmodE (by omega)), (128 + (r % 64)), fz rfl trivial (i64w (by omega) (by omega)), (.lit (.int .u8 (IntKind.wrap .u8 (128 + (r % 64))))), PO_convInt rfl un3 un5 rfl, (.sl .full 1 ([(IntKind.wrap .u8 (224 + (r / 4096))), (IntKind.wrap .u8 (128 + ((r / 64) % 64))), (IntKind.wrap .u8 (128 + (r % 64)))].map eU8)), PO_buildSlice (n := 3) (S := 1) (rs := [.lit (.int .u8 (IntKind.wrap .u8 (224 + (r / 4096))))] ++ ([.lit (.int .u8 (IntKind.wrap .u8 (128 + ((r / 64) % 64))))] ++ ([.lit (.int .u8 (IntKind.wrap .u8 (128 + (r % 64))))] ++ []))) rfl un50 ty5 z5 rfl rfl rfl (by decide) rfl (by decide), ?_⟩
        refine AW_any (k := 2) rfl ?_
        exact AW_ret (ret_le2 (.inl rfl) rfl (by rw [putI, if_neg (by omega), if_neg (by omega), if_pos (by omega)]; rfl) (.refl _))
      · skip
        refine ⟨(r / 262144), fz rfl (by simp [divSafe]) (quoE (by omega) (by omega) (by omega)), (240 + (r / 262144)), fz rfl trivial (i64w (by omega) (by omega)), (.lit (.int .u8 (IntKind.wrap .u8 (240 + (r / 262144))))), PO_convInt rfl un3 un5 rfl, (r / 4096), fz rfl (by simp [divSafe]) (quoE (by omega) (by omega) (by omega)), ((r / 4096) % 64), fz rfl (by simp [divSafe]) (tmodE (by omega)), (128 + ((r / 4096) % 64)), fz rfl trivial (i64w (by omega) (by omega)), (.lit (.int .u8 (IntKind.wrap .u8 (128 + ((r / 4096) % 64))))), PO_convInt rfl un3 un5 rfl, (r / 64), fz rfl (by simp [divSafe]) (quoE (by omega) (by omega) (by omega)), ((r / 64) % 64), fz rfl (by simp [divSafe]) (tmodE (by omega)), (128 + ((r / 64) % 64)), fz rfl trivial (i64w (by omega) (by omega)), (.lit (.int .u8 (IntKind.wrap .u8 (128 + ((r / 64) % 64))))), PO_convInt rfl un3 un5 rfl, (r % 64), fz rfl (by simp [divSafe]) (tmodE (by omega)), (128 + (r % 64)), fz rfl trivial (i64w (by omega) (by omega)), (.lit (.int .u8 (IntKind.wrap .u8 (128 + (r % 64))))), PO_convInt rfl un3 un5 rfl, (.sl .full 1 ([(IntKind.wrap .u8 (240 + (r / 262144))), (IntKind.wrap .u8 (128 + ((r / 4096) % 64))), (IntKind.wrap .u8 (128 + ((r / 64) % 64))), (IntKind.wrap .u8 (128 + (r % 64)))].map eU8)), PO_buildSlice (n := 4) (S := 1) (rs := [.lit (.int .u8 (IntKind.wrap .u8 (240 + (r / 262144))))] ++ ([.lit (.int .u8 (IntKind.wrap .u8 (128 + ((r / 4096) % 64))))] ++ ([.lit (.int .u8 (IntKind.wrap .u8 (128 + ((r / 64) % 64))))] ++ ([.lit (.int .u8 (IntKind.wrap .u8 (128 + (r % 64))))] ++ [])))) rfl un50 ty5 z5 rfl rfl rfl (by decide) rfl (by decide), ?_⟩
        refine AW_any (k := 2) rfl ?_
        exact AW_ret (ret_le2 (.inl rfl) rfl (by rw [putI, if_neg (by omega), if_neg (by omega), if_neg (by omega)]; rfl) (.refl _))
theorem emod_lea {x t : Int} (h : 0 ≤ x) (ht : 1 ≤ t) : x % t ≤ x := by
  have h1 := Int.emod_add_mul_ediv x t
  have h2 : 0 ≤ t * (x / t) := Int.mul_nonneg (by omega) (Int.ediv_nonneg h (by omega))
  omega
def tabF (n : Nat) : Int := [1, 1, 32, 16, 8].getD n 1
theorem tab_get {n : Nat} (h : n < 5) : ([1, 1, 32, 16, 8] : List Int)[n]? = some (tabF n) := by
  rcases n with _ | _ | _ | _ | _ | n <;> first | rfl | omega
theorem tabF_pos (n : Nat) : 1 ≤ tabF n := by
  rcases n with _ | _ | _ | _ | _ | n <;> simp [tabF]
def gstep (n i : Nat) (c : Int) : Int := if i = 0 ∧ 1 < n then c % tabF n else if 0 < i then c % 64 else c
def gacc (n : Nat) : Nat → Int → List UInt8 → Int
  | _, r, [] => r
  | i, r, x :: l => gacc n (i + 1) (64 * r + gstep n i (x.toNat : Int)) l
def getR (n : Nat) (s : ByteArray) : Int := gacc n 0 0 ((bys s).take n)
def getFrom : Nat → Nat → ByteArray → Int × Nat
  | 0, _, _ => (0, 0)
  | f + 1, n, s => if (decide ((n : Int) ≤ 4) && decide ((n : Int) ≤ (s.size : Int))) = true then if (mayF (getR n s) && decide (ofInts (putI (getR n s)) = s.extract 0 n)) = true then (getR n s, n) else getFrom f (n + 1) s else (0, 0)
def getF (s : ByteArray) : Int × Nat := getFrom 4 1 s
def gB : Nat → Int
  | 0 => 0
  | 1 => 255
  | 2 => 20000
  | 3 => 1300000
  | _ => 90000000
theorem gB_le (i : Nat) : gB i ≤ 90000000 := by rcases i with _ | _ | _ | _ | i <;> simp [gB]
theorem gstep_le {n i : Nat} {x : UInt8} (hi : i < 4) : 0 ≤ gstep n i (x.toNat : Int) ∧ ∀ r, r ≤ gB i → 64 * r + gstep n i (x.toNat : Int) ≤ gB (i + 1) := by
  have hx := x.toNat_lt
  have ht := tabF_pos n
  have h1 : 0 ≤ (x.toNat : Int) % tabF n := Int.emod_nonneg _ (by omega)
  have h2 : (x.toNat : Int) % tabF n ≤ (x.toNat : Int) := emod_lea (by omega) (by omega)
  rcases i with _ | _ | _ | _ | i
  · unfold gstep; simp only [gB]; split
    · exact ⟨h1, fun r hr => by omega⟩
    · rw [if_neg (by omega)]; exact ⟨by omega, fun r hr => by omega⟩
  · unfold gstep; simp only [gB]; rw [if_neg (by omega), if_pos (by omega)]; exact ⟨by omega, fun r hr => by omega⟩
  · unfold gstep; simp only [gB]; rw [if_neg (by omega), if_pos (by omega)]; exact ⟨by omega, fun r hr => by omega⟩
  · unfold gstep; simp only [gB]; rw [if_neg (by omega), if_pos (by omega)]; exact ⟨by omega, fun r hr => by omega⟩
  · omega
theorem get93_ (s : ByteArray) (hs : s.size ≤ 1048576) : PFn PR (.fn (.func 103) [] []) [.lit (.string s)] (.tup [.lit (.int .i64 ((getF s).1)), .lit (.int .i64 ((getF s).2 : Int))]) := by
  have hsz := bsize s
  refine PFn_of Go.Proofs.Tryz.func103 rfl (by rfl) Go.Proofs.Tryz.ntmps103 rfl (by simp) fun h => ?_
  refine AW_x [] [] ?_
  refine AW_it [] [] [(0, _), (2, _), (3, _)] (fun (n : Nat) => [(4, .lit (.int .i64 ((n : Nat) : Int)))]) (fun (n : Nat) => h) (fun (n : Nat) => 1 ≤ n ∧ n ≤ 5 ∧ getF s = getFrom (5 - n) n s) (fun (n : Nat) => 5 - n) (1) ⟨rfl, rfl, rfl, trivial⟩ ⟨rfl, trivial⟩ rfl (⟨by omega, by omega, rfl⟩) ?_
  rintro n ⟨hn1, hn5, hSn⟩
  refine ⟨_, fun hg10 => ⟨un9, rfl⟩, fun hc2 => ?_, fun hc2 => ?_⟩
  · skip
    have hd2 := hc2
    simp only [Bool.and_eq_true, decide_eq_true_eq] at hd2
    have hf : getFrom (5 - n) n s = if (mayF (getR n s) && decide (ofInts (putI (getR n s)) = s.extract 0 n)) = true then (getR n s, n) else getFrom (5 - (n + 1)) (n + 1) s := by
      rw [show 5 - n = (5 - (n + 1)) + 1 by omega, getFrom, if_pos hc2]
    rw [hf] at hSn
    have hlen : ((bys s).take n).length = n := by rw [List.length_take]; omega
    refine AW_it [] [(10, 5)] [(4, _), (0, _), (2, _), (3, _)] (fun (z_ : Nat × Int) => match z_ with | (i, r) => [(6, .lit (.int .i64 ((i : Nat) : Int))), (5, .lit (.int .i64 r))]) (fun (z_ : Nat × Int) => match z_ with | (i, r) => h) (fun (z_ : Nat × Int) => match z_ with | (i, r) => i ≤ n ∧ 0 ≤ r ∧ r ≤ gB i ∧ getR n s = gacc n i r (((bys s).take n).drop i)) (fun (z_ : Nat × Int) => match z_ with | (i, r) => n - i) ((0, 0)) ⟨rfl, rfl, rfl, rfl, trivial⟩ ⟨rfl, rfl, trivial⟩ rfl (⟨by omega, by omega, by simp [gB], rfl⟩) ?_
    rintro ⟨i, r⟩ ⟨hIi, hr0, hrB, hSi⟩
    refine brD (fun hc6 => ?_) (fun hc6 => ?_)
    · skip
      obtain ⟨x, hrx, hdx, hmx⟩ := drop_at (l := ((bys s).take n)) (i := i) (by omega)
      rw [hdx, gacc] at hSi
      have hgx := gstep_le (n := n) (x := x) (i := i) (by omega)
      have hst2 := hgx.2 r hrB
      have hB := gB_le i
      have hxlt := x.toNat_lt
      have ht := tabF_pos n
      have hx1 : 0 ≤ (x.toNat : Int) % tabF n := Int.emod_nonneg _ (by omega)
      have hx2 : (x.toNat : Int) % tabF n ≤ (x.toNat : Int) := emod_lea (by omega) (by omega)
      have hrs : (bys s)[i]? = some x := by rw [List.getElem?_take, if_pos (by omega)] at hrx; exact hrx
      refine ⟨_, ⟨un9, (by first | decide | omega), (bget hrs)⟩, (.lit (.int .i64 ((x : UInt8).toNat : Int))), PO_convU8 rfl un5 un3 rfl, _, fun hg29 => rfl, fun hc9 => ?_, fun hc9 => ?_⟩
      · skip
        have hd9 := hc9
        simp only [Bool.and_eq_true, decide_eq_true_eq] at hd9
        refine ⟨(.sl .full 1 ([1, 1, 32, 16, 8].map eI64)), PO_buildSlice (n := 5) (S := 1) (rs := [.lit (.int .i64 1)] ++ ([.lit (.int .i64 1)] ++ ([.lit (.int .i64 32)] ++ ([.lit (.int .i64 16)] ++ ([.lit (.int .i64 8)] ++ []))))) rfl un32 ty3 z3 rfl rfl rfl (by decide) rfl (by decide), L32, _, ⟨rfl, (by first | decide | omega), (mget (tab_get (by omega)))⟩, T3, (.lit (.int .i64 (((x : UInt8).toNat : Int) % tabF n))), PO_fit rfl rfl rfl rfl (by simp only [divSafe]; omega) (tmodE (by omega)), brD (fun hc11 => ?_) (fun hc11 => ?_)⟩
        · skip
          have hst : gstep n i (x.toNat : Int) = (x.toNat : Int) % 64 := by unfold gstep; rw [if_neg (by omega), if_pos (by omega)]
          rw [hst] at hSi hst2 hgx
          refine ⟨((((x : UInt8).toNat : Int) % tabF n) % 64), fz rfl (by simp [divSafe]) (tmodE (by omega)), (64 * r), fz rfl trivial (i64w (by omega) (by omega)), (64 * r + ((((x : UInt8).toNat : Int) % tabF n) % 64)), fz rfl trivial (i64w (by omega) (by omega)), _, f1 (by first | omega | (simp_all <;> omega)), ?_⟩
          first | exact ⟨(i + 1, _), ⟨by omega, by omega, hst2, hSi⟩, by simp only []; omega, ⟨rfl, ⟨rfl, rfl, rfl, rfl, rfl, rfl, trivial⟩, rfl, rfl, rfl⟩⟩ | (exfalso; omega)
        · skip
          have hst : gstep n i (x.toNat : Int) = (if i = 0 ∧ 1 < n then (x.toNat : Int) % tabF n else (x.toNat : Int)) := by unfold gstep; split; rfl; rw [if_neg (by omega)]
          first | rw [if_pos (by omega)] at hst | rw [if_neg (by omega)] at hst
          rw [hst] at hSi hst2 hgx
          refine ⟨(64 * r), fz rfl trivial (i64w (by omega) (by omega)), (64 * r + (((x : UInt8).toNat : Int) % tabF n)), fz rfl trivial (i64w (by omega) (by omega)), _, f1 (by first | omega | (simp_all <;> omega)), ?_⟩
          first | exact ⟨(i + 1, _), ⟨by omega, by omega, hst2, hSi⟩, by simp only []; omega, ⟨rfl, ⟨rfl, rfl, rfl, rfl, rfl, rfl, trivial⟩, rfl, rfl, rfl⟩⟩ | (exfalso; omega)
      · skip
        have hd9 := hc9
        simp only [Bool.and_eq_false_iff, decide_eq_false_iff_not] at hd9
        refine brD (fun hc11 => ?_) (fun hc11 => ?_)
        · skip
          have hst : gstep n i (x.toNat : Int) = (x.toNat : Int) % 64 := by unfold gstep; rw [if_neg (by omega), if_pos (by omega)]
          rw [hst] at hSi hst2 hgx
          refine ⟨(((x : UInt8).toNat : Int) % 64), fz rfl (by simp [divSafe]) (tmodE (by omega)), (64 * r), fz rfl trivial (i64w (by omega) (by omega)), (64 * r + (((x : UInt8).toNat : Int) % 64)), fz rfl trivial (i64w (by omega) (by omega)), _, f1 (by first | omega | (simp_all <;> omega)), ?_⟩
          first | exact ⟨(i + 1, _), ⟨by omega, by omega, hst2, hSi⟩, by simp only []; omega, ⟨rfl, ⟨rfl, rfl, rfl, rfl, rfl, rfl, trivial⟩, rfl, rfl, rfl⟩⟩ | (exfalso; omega)
        · skip
          have hst : gstep n i (x.toNat : Int) = (if i = 0 ∧ 1 < n then (x.toNat : Int) % tabF n else (x.toNat : Int)) := by unfold gstep; split; rfl; rw [if_neg (by omega)]
          first | rw [if_pos (by omega)] at hst | rw [if_neg (by omega)] at hst
          rw [hst] at hSi hst2 hgx
          refine ⟨(64 * r), fz rfl trivial (i64w (by omega) (by omega)), (64 * r + ((x : UInt8).toNat : Int)), fz rfl trivial (i64w (by omega) (by omega)), _, f1 (by first | omega | (simp_all <;> omega)), ?_⟩
          first | exact ⟨(i + 1, _), ⟨by omega, by omega, hst2, hSi⟩, by simp only []; omega, ⟨rfl, ⟨rfl, rfl, rfl, rfl, rfl, rfl, trivial⟩, rfl, rfl, rfl⟩⟩ | (exfalso; omega)
    · skip
      rw [drop_end (l := ((bys s).take n)) (i := i) (by omega), gacc] at hSi
      rw [hSi] at hSn
      refine ⟨⟨hmixed, by kernel_rfl⟩, _, (may103_ _), _, fun hg49 => ⟨_, (put_ _ (by assumption)), (.lit (.string (ofInts (putI r)))), PO_convBytes rfl un50 un5 un9 rfl, (.lit (.string (s.extract 0 n))), PO_slice_str (l := 0) (h := ((n : Nat) : Int)) rfl un9 rfl rfl rfl (by omega) (by omega) (by omega), rfl⟩, fun hc14 => ?_, fun hc14 => ?_⟩
      · skip
        rw [if_pos hc14] at hSn
        exact AW_ret (ret_le2 (.inl rfl) rfl (by rw [hSn] <;> rfl) (.refl _))
      · skip
        rw [if_neg (by rw [hc14]; simp)] at hSn
        refine ⟨_, f1 (by first | omega | (simp_all <;> omega)), ?_⟩
        exact ⟨n + 1, ⟨by omega, by omega, hSn⟩, by omega, ⟨rfl, ⟨rfl, rfl, rfl, rfl, trivial⟩, rfl, rfl, rfl⟩⟩
  · skip
    have hf : getFrom (5 - n) n s = (0, 0) := by
      cases hk : 5 - n with
      | zero => rfl
      | succ k => rw [getFrom, if_neg (fun e => by rw [hc2] at e; cases e)]
    rw [hf] at hSn
    exact AW_ret (ret_le2 (.inl rfl) rfl (by rw [hSn] <;> rfl) (.refl _))
end Go.AM.Tryd
end
section
set_option maxRecDepth 100000
set_option maxHeartbeats 4000000
set_option linter.unusedVariables false
set_option linter.unusedSimpArgs false
namespace Go.AM.Tryd
open Go Go.AM Go.AM.D
theorem getFrom_le (s : ByteArray) : ∀ f n, (getFrom f n s).2 ≤ s.size := by
  intro f
  induction f with
  | zero => intro n; simp [getFrom]
  | succ f ih =>
    intro n
    rw [getFrom]
    split
    · rename_i h
      simp only [Bool.and_eq_true, decide_eq_true_eq] at h
      split
      · simp only []; omega
      · exact ih _
    · simp
theorem getF_le (s : ByteArray) : (getF s).2 ≤ s.size := getFrom_le s 4 1
theorem piece_le (s : ByteArray) (k : Nat) (hk : k ≤ s.size) : (getF (s.extract k (min s.size (k + 4)))).2 ≤ s.size - k := by
  have := getF_le (s.extract k (min s.size (k + 4)))
  rw [ByteArray.size_extract] at this
  omega
def runesG (s : ByteArray) (k : Nat) (acc : List Rune) : List Rune × Nat :=
  if _h : k < s.size then
    if _h0 : (getF (s.extract k (min s.size (k + 4)))).2 = 0 then (acc, k) else runesG s (k + (getF (s.extract k (min s.size (k + 4)))).2) (acc ++ [⟨k, (getF (s.extract k (min s.size (k + 4)))).1⟩])
  else (acc, k)
termination_by s.size - k
theorem runesG_end {s : ByteArray} {k : Nat} {acc : List Rune} (h : ¬ k < s.size) : runesG s k acc = (acc, k) := by rw [runesG, dif_neg h]
theorem runesG_stop {s : ByteArray} {k : Nat} {acc : List Rune} (h : k < s.size) (h0 : (getF (s.extract k (min s.size (k + 4)))).2 = 0) : runesG s k acc = (acc, k) := by rw [runesG, dif_pos h, dif_pos h0]
theorem runesG_step {s : ByteArray} {k : Nat} {acc : List Rune} (h : k < s.size) (h0 : ¬ (getF (s.extract k (min s.size (k + 4)))).2 = 0) : runesG s k acc = runesG s (k + (getF (s.extract k (min s.size (k + 4)))).2) (acc ++ [⟨k, (getF (s.extract k (min s.size (k + 4)))).1⟩]) := by
  rw [runesG, dif_pos h, dif_neg h0]
theorem runes90_ (s : ByteArray) (hs : s.size ≤ 1048576) : PFn PR (.fn (.func 92) [] []) [.lit (.string s)] (.tup [.sl .any 2 (((runesG s 0 []).1).map eRune), .lit (.int .i64 (((runesG s 0 []).2 : Nat) : Int))]) := by
  refine PFn_of Go.Proofs.Tryz.func92 rfl (by rfl) Go.Proofs.Tryz.ntmps92 rfl (by simp) fun h => ?_
  refine AW_x [] [] ?_
  refine ⟨2, 2, ?_⟩
  refine AW_it [] [] [(0, _), (2, _), (3, _)] (fun (z_ : Nat × List Rune × Own × Heap) => match z_ with | (k, acc, own, hp) => [(5, .lit (.int .i64 ((k : Nat) : Int))), (4, .sl own 2 (acc.map eRune))]) (fun (z_ : Nat × List Rune × Own × Heap) => match z_ with | (k, acc, own, hp) => hp) (fun (z_ : Nat × List Rune × Own × Heap) => match z_ with | (k, acc, own, hp) => k ≤ s.size ∧ runesG s 0 [] = runesG s k acc ∧ acc.length ≤ k ∧ Grow h 2 acc.length own hp) (fun (z_ : Nat × List Rune × Own × Heap) => match z_ with | (k, acc, own, hp) => s.size - k) ((0, [], .nil, h)) ⟨rfl, rfl, rfl, trivial⟩ ⟨rfl, rfl, trivial⟩ rfl (⟨by omega, rfl, by simp, Grow.nil _ _ _⟩) ?_
  rintro ⟨k, acc, own, hp⟩ ⟨hk, hS, hA, hG⟩
  refine ⟨un9, brD (fun hc3 => ?_) (fun hc3 => ?_)⟩
  · skip
    have hk3 : k < s.size := by omega
    have hpl := piece_le s k hk
    have hex : (s.extract k (min s.size (k + 4))).size ≤ 1048576 := by rw [ByteArray.size_extract]; omega
    refine ⟨un9, ((k + 4 : Nat) : Int), fI (by first | omega | (simp_all <;> omega)), (.lit (.int .i64 ((min s.size (k + 4) : Nat) : Int))), PO_eqI (PO_min rfl rfl rfl) (by split <;> omega), (.lit (.string (s.extract k (min s.size (k + 4))))), PO_slice_str (l := ((k : Nat) : Int)) (h := ((min s.size (k + 4) : Nat) : Int)) rfl un9 rfl rfl rfl (by omega) (by omega) (by omega), _, (get93_ _ (by first | assumption | omega)), brD (fun hc5 => ?_) (fun hc5 => ?_)⟩
    · skip
      rw [runesG_stop (k := k) hk3 (by omega)] at hS
      refine AW_any (k := 2) rfl ?_
      exact AW_ret (ret_le2 (.inl rfl) rfl (by rw [hS]) hG.le)
    · skip
      rw [runesG_step (k := k) hk3 (by omega)] at hS
      refine ⟨(.agg (eRune (⟨((k : Nat) : Int), (getF (s.extract k (min s.size (k + 4)))).1⟩ : Rune))), PO_build rfl z155 pl155 rfl rfl, (.sl .full 2 ([(⟨((k : Nat) : Int), (getF (s.extract k (min s.size (k + 4)))).1⟩ : Rune)].map eRune)), PO_buildSlice (n := 1) (S := 2) (rs := eRune (⟨((k : Nat) : Int), (getF (s.extract k (min s.size (k + 4)))).1⟩ : Rune) ++ []) rfl un147 ty155 z155 rfl rfl rfl (by decide) rfl (by decide), ?_⟩
      refine AL_m rfl rfl rfl (MO_grow (acc := acc) (f := eRune) rfl un147 un147 ty155 z155 rfl by155 rfl rfl (.inl rfl) (by first | omega | simp) hG (by simp only [List.length_singleton]; omega) (by simp only [List.length_singleton]; omega)) ?_
      rintro _ h1 ⟨own1, rfl, hG1⟩
      refine AL_x [] [] 6 ?_
      refine ⟨((k + (getF (s.extract k (min s.size (k + 4)))).2 : Nat) : Int), fI (by first | omega | (simp_all <;> omega)), ?_⟩
      exact ⟨(k + (getF (s.extract k (min s.size (k + 4)))).2, acc ++ [⟨k, (getF (s.extract k (min s.size (k + 4)))).1⟩], own1, h1), ⟨by omega, hS, by simp only [List.length_append, List.length_singleton]; omega, hG1⟩, by simp only []; omega, ⟨rfl, ⟨rfl, rfl, rfl, rfl, rfl, trivial⟩, rfl, rfl, rfl⟩⟩
  · skip
    rw [runesG_end (k := k) (by omega)] at hS
    refine AW_any (k := 2) rfl ?_
    exact AW_ret (ret_le2 (.inl rfl) rfl (by rw [hS]) hG.le)
def validR (s : ByteArray) : Bool := decide ((((runesG s 0 []).2 : Nat) : Int) = (s.size : Int))
theorem valid83_ (s : ByteArray) (hs : s.size ≤ 1048576) : PFn PR (.fn (.func 86) [] []) [.lit (.string s)] (.lit (.bool (validR s))) := by
  refine PFn_of Go.Proofs.Tryz.func86 rfl (by rfl) Go.Proofs.Tryz.ntmps86 rfl (by simp) fun h => ?_
  refine AW_x [] [] ?_
  refine ⟨_, (runes90_ _ (by first | assumption | omega)), un9, ?_⟩
  exact AW_ret (ret_le2 (.inl rfl) rfl rfl (.refl _))
def iriB (c : Int) : Bool := (((decide (c ≤ 32) || inbF c (bys ⟨#[60, 62, 123, 125, 124, 94]⟩)) || decide (c = 34)) || decide (c = 92)) || decide (c = 96)
def iriL : List UInt8 → Bool
  | [] => true
  | x :: l => if iriB ((x : UInt8).toNat : Int) = true then false else iriL l
def iriR (s : ByteArray) : Bool := if ((decide ((s.size : Int) < 1) || decide ((s.size : Int) > 1000)) || !validR s) = true then false else iriL (bys s)
theorem iri84_ (s : ByteArray) (hs : s.size ≤ 1048576) : PFn PR (.fn (.func 87) [] []) [.lit (.string s)] (.lit (.bool (iriR s))) := by
  have hsz := bsize s
  refine PFn_of Go.Proofs.Tryz.func87 rfl (by rfl) Go.Proofs.Tryz.ntmps87 rfl (by simp) fun h => ?_
  refine AW_x [] [] ?_
  refine ⟨un9, _, fun hg7 => ⟨un9, rfl⟩, _, fun hg12 => ⟨_, (valid83_ _ (by first | assumption | omega)), rfl⟩, fun hc1 => ?_, fun hc1 => ?_⟩
  · skip
    have hw : iriR s = false := by rw [iriR, if_pos hc1]
    exact AW_ret (ret_le2 (.inl rfl) rfl (by rw [hw]) (.refl _))
  · skip
    have hw : iriR s = iriL (bys s) := by rw [iriR, if_neg (by rw [hc1]; simp)]
    refine AW_it [] [] [(0, _), (2, _)] (fun (i : Nat) => [(3, .lit (.int .i64 ((i : Nat) : Int)))]) (fun (i : Nat) => h) (fun (i : Nat) => i ≤ (bys s).length ∧ iriL (bys s) = iriL ((bys s).drop i)) (fun (i : Nat) => (bys s).length - i) (0) ⟨rfl, rfl, trivial⟩ ⟨rfl, trivial⟩ rfl (⟨by omega, rfl⟩) ?_
    rintro i ⟨hIi, hSi⟩
    refine ⟨un9, brD (fun hc0 => ?_) (fun hc0 => ?_)⟩
    · skip
      obtain ⟨x, hrx, hdx, hmx⟩ := drop_at (l := (bys s)) (i := i) (by omega)
      rw [hdx, iriL] at hSi
      refine ⟨_, ⟨un9, (by first | decide | omega), (bget hrx)⟩, _, fun hg27 => ⟨_, ⟨un9, (by first | decide | omega), (bget hrx)⟩, _, (inb_ _ _ (by first | decide | omega)), rfl⟩, _, fun hg33 => ⟨_, ⟨un9, (by first | decide | omega), (bget hrx)⟩, rfl⟩, _, fun hg39 => ⟨_, ⟨un9, (by first | decide | omega), (bget hrx)⟩, rfl⟩, _, fun hg45 => ⟨_, ⟨un9, (by first | decide | omega), (bget hrx)⟩, rfl⟩, fun hc6 => ?_, fun hc6 => ?_⟩
      · skip
        rw [iriB, if_pos hc6] at hSi
        exact AW_ret (ret_le2 (.inl rfl) rfl (by rw [hw, hSi]) (.refl _))
      · skip
        rw [iriB, if_neg (by rw [hc6]; simp)] at hSi
        refine ⟨_, f1 (by first | omega | (simp_all <;> omega)), ?_⟩
        exact ⟨i + 1, ⟨by omega, hSi⟩, by omega, ⟨rfl, ⟨rfl, rfl, rfl, trivial⟩, rfl, rfl, rfl⟩⟩
    · skip
      rw [drop_end (l := (bys s)) (i := i) (by omega), iriL] at hSi
      exact AW_ret (ret_le2 (.inl rfl) rfl (by rw [hw, hSi]) (.refl _))
def prevB (l : List UInt8) : Nat → Int
  | 0 => 0
  | k + 1 => ((l.getD k 0).toNat : Int)
theorem bget_pred {s : ByteArray} {i : Nat} (h0 : 0 < i) (h : i ≤ s.size) : s[(((i : Nat) : Int) - 1).toNat]? = some ((bys s).getD (i - 1) 0) := by
  have := bget (s := s) (i := i - 1) (c := (bys s).getD (i - 1) 0) (by
    rw [List.getD_eq_getElem?_getD, List.getElem?_eq_getElem (by rw [bsize]; omega)]; rfl)
  rw [show (((i : Nat) : Int) - 1).toNat = (((i - 1 : Nat)) : Int).toNat by omega]; exact this
theorem bget_last {s : ByteArray} (h : 1 ≤ s.size) : s[((s.size : Int) - 1).toNat]? = some ((bys s).getD (s.size - 1) 0) := bget_pred h (Nat.le_refl _)
def tagB (first : Bool) (c : Int) : Bool := !(decide (c ≥ 97) && decide (c ≤ 122)) && (first || !digitF c)
def tagL (all : List UInt8) : Nat → Bool → List UInt8 → Bool
  | _, _, [] => true
  | i, first, x :: l => if decide (((x : UInt8).toNat : Int) = 45) = true then (if decide ((((all.getD (i - 1) 0) : UInt8).toNat : Int) = 45) = true then false else tagL all (i + 1) false l) else if tagB first ((x : UInt8).toNat : Int) = true then false else tagL all (i + 1) first l
def tagR (s : ByteArray) : Bool := if (((decide ((s.size : Int) < 1) || decide ((s.size : Int) > 35)) || decide (((head8 (bys s)).toNat : Int) = 45)) || decide (((((bys s).getD (s.size - 1) 0) : UInt8).toNat : Int) = 45)) = true then false else tagL (bys s) 0 true (bys s)
theorem tag85_ (s : ByteArray) (hs : s.size ≤ 1048576) : PFn PR (.fn (.func 88) [] []) [.lit (.string s)] (.lit (.bool (tagR s))) := by
  have hsz := bsize s
  refine PFn_of Go.Proofs.Tryz.func88 rfl (by rfl) Go.Proofs.Tryz.ntmps88 rfl (by simp) fun h => ?_
  refine AW_x [] [] ?_
  refine ⟨un9, _, fun hg9 => ⟨un9, rfl⟩, (decide ((((head8 (bys s) : UInt8).toNat : Int) : Int) = 45) : Bool), fun hg14 => by
        have hd1 := hg14
        simp only [Bool.or_eq_false_iff, decide_eq_false_iff_not] at hd1
        exact ⟨_, ⟨un9, (by first | decide | omega), (bget (i := 0) (head8_get (by omega)))⟩, rfl⟩, (decide (((((bys s).getD (s.size - 1) 0 : UInt8).toNat : Int) : Int) = 45) : Bool), fun hg19 => by
        have hd1 := hg19
        simp only [Bool.or_eq_false_iff, decide_eq_false_iff_not] at hd1
        exact ⟨un9, ((s.size : Int) - 1), fz rfl trivial (i64w (by omega) (by omega)), _, ⟨un9, (by first | decide | omega), (bget_last (by omega))⟩, rfl⟩, fun hc1 => ?_, fun hc1 => ?_⟩
  · skip
    have hw : tagR s = false := by rw [tagR, if_pos hc1]
    exact AW_ret (ret_le2 (.inl rfl) rfl (by rw [hw]) (.refl _))
  · skip
    have hw : tagR s = tagL (bys s) 0 true (bys s) := by rw [tagR, if_neg (by rw [hc1]; simp)]
    have hd1 := hc1
    simp only [Bool.or_eq_false_iff, decide_eq_false_iff_not] at hd1
    refine AW_it [] [] [(0, _), (2, _)] (fun (z_ : Nat × Bool) => match z_ with | (i, first) => [(4, .lit (.int .i64 ((i : Nat) : Int))), (3, .lit (.bool first))]) (fun (z_ : Nat × Bool) => match z_ with | (i, first) => h) (fun (z_ : Nat × Bool) => match z_ with | (i, first) => i ≤ (bys s).length ∧ tagL (bys s) 0 true (bys s) = tagL (bys s) i first ((bys s).drop i)) (fun (z_ : Nat × Bool) => match z_ with | (i, first) => (bys s).length - i) ((0, true)) ⟨rfl, rfl, trivial⟩ ⟨rfl, rfl, trivial⟩ rfl (⟨by omega, rfl⟩) ?_
    rintro ⟨i, first⟩ ⟨hIi, hSi⟩
    refine ⟨un9, brD (fun hc0 => ?_) (fun hc0 => ?_)⟩
    · skip
      obtain ⟨x, hrx, hdx, hmx⟩ := drop_at (l := (bys s)) (i := i) (by omega)
      rw [hdx, tagL] at hSi
      refine ⟨_, ⟨un9, (by first | decide | omega), (bget hrx)⟩, _, fun hg37 => ⟨_, ⟨un9, (by first | decide | omega), (bget hrx)⟩, rfl⟩, _, ⟨un9, (by first | decide | omega), (bget hrx)⟩, brD (fun hc8 => ?_) (fun hc8 => ?_)⟩
      · skip
        rw [if_pos (by simpa using hc8)] at hSi
        have hi0 : 0 < i := by
          rcases Nat.eq_zero_or_pos i with e | e
          · subst e; rw [head8_get (by omega)] at hrx; injection hrx with hrx; rw [hrx] at hd1; exact absurd hc8 hd1.1.2
          · exact e
        refine ⟨(((i : Nat) : Int) - 1), fz rfl trivial (i64w (by omega) (by omega)), _, ⟨un9, (by first | decide | omega), (bget_pred (by omega) (by omega))⟩, brD (fun hc9 => ?_) (fun hc9 => ?_)⟩
        · skip
          rw [if_pos (by simpa using hc9)] at hSi
          exact AW_ret (ret_le2 (.inl rfl) rfl (by rw [hw, hSi]) (.refl _))
        · skip
          rw [if_neg (by simpa using hc9)] at hSi
          refine ⟨_, f1 (by first | omega | (simp_all <;> omega)), ?_⟩
          exact ⟨(i + 1, false), ⟨by omega, hSi⟩, by simp only []; omega, ⟨rfl, ⟨rfl, rfl, rfl, rfl, trivial⟩, rfl, rfl, rfl⟩⟩
      · skip
        rw [if_neg (by simpa using hc8)] at hSi
        refine ⟨_, fun hg56 => ⟨_, fun hg58 => ⟨_, ⟨un9, (by first | decide | omega), (bget hrx)⟩, _, (digit87_ _), rfl⟩, rfl⟩, fun hc12 => ?_, fun hc12 => ?_⟩
        · skip
          rw [tagB, if_pos hc12] at hSi
          exact AW_ret (ret_le2 (.inl rfl) rfl (by rw [hw, hSi]) (.refl _))
        · skip
          rw [tagB, if_neg (by rw [hc12]; simp)] at hSi
          refine ⟨_, f1 (by first | omega | (simp_all <;> omega)), ?_⟩
          exact ⟨(i + 1, first), ⟨by omega, hSi⟩, by simp only []; omega, ⟨rfl, ⟨rfl, rfl, rfl, rfl, trivial⟩, rfl, rfl, rfl⟩⟩
    · skip
      rw [drop_end (l := (bys s)) (i := i) (by omega), tagL] at hSi
      exact AW_ret (ret_le2 (.inl rfl) rfl (by rw [hw, hSi]) (.refl _))
end Go.AM.Tryd
end
section
set_option maxRecDepth 100000
set_option maxHeartbeats 4000000
set_option linter.unusedVariables false
set_option linter.unusedSimpArgs false
namespace Go.AM.Tryd
open Go Go.AM Go.AM.D
abbrev xsd : ByteArray := ⟨#[104, 116, 116, 112, 58, 47, 47, 119, 119, 119, 46, 119, 51, 46, 111, 114, 103, 47, 50, 48, 48, 49, 47, 88, 77, 76, 83, 99, 104, 101, 109, 97, 35, 115, 116, 114, 105, 110, 103]⟩
def valR (s : ByteArray) : Bool := decide ((s.size : Int) ≤ 4000) && validR s
def termR (t : Term) : Bool := if t.kind = 1 then iriR t.text && decide (t.extra = ⟨#[]⟩) else if t.kind = 2 then wordF t.text 64 && decide (t.extra = ⟨#[]⟩) else if t.kind = 3 then valR t.text && decide (t.extra = ⟨#[]⟩) else if t.kind = 4 then valR t.text && tagR t.extra else if t.kind = 5 then (valR t.text && iriR t.extra) && decide (t.extra ≠ xsd) else false
theorem term77_ (t : Term) (ht : okT t) : PFn PR (.fn (.func 82) [] []) [.agg (eTerm t)] (.lit (.bool (termR t))) := by
  have h1 := ht.1
  have h2 := ht.2
  refine PFn_of Go.Proofs.Tryz.func82 rfl (by rfl) Go.Proofs.Tryz.ntmps82 rfl (by simp) fun h => ?_
  refine AW_x [] [] ?_
  refine ⟨F25_1, T9, un9, _, fun hg8 => ⟨F25_1, T9, _, (valid83_ _ (by first | assumption | omega)), rfl⟩, F25_0, T23, brD (fun hc3 => ?_) (fun hc3 => ?_)⟩
  · skip
    refine ⟨F25_1, T9, _, (iri84_ _ (by first | assumption | omega)), _, fun hg20 => ⟨F25_2, T9, rfl⟩, ?_⟩
    exact AW_ret (ret_le2 (.inl rfl) rfl (by rw [termR, if_pos hc3]) (.refl _))
  · skip
    refine brD (fun hc5 => ?_) (fun hc5 => ?_)
    · skip
      refine ⟨F25_1, T9, _, (word_ _ _ (by first | assumption | omega)), _, fun hg30 => ⟨F25_2, T9, rfl⟩, ?_⟩
      exact AW_ret (ret_le2 (.inl rfl) rfl (by rw [termR, if_neg hc3, if_pos hc5]) (.refl _))
    · skip
      refine brD (fun hc7 => ?_) (fun hc7 => ?_)
      · skip
        refine ⟨_, fun hg38 => ⟨F25_2, T9, rfl⟩, ?_⟩
        exact AW_ret (ret_le2 (.inl rfl) rfl (by rw [termR, if_neg hc3, if_neg hc5, if_pos hc7] <;> rfl) (.refl _))
      · skip
        refine brD (fun hc9 => ?_) (fun hc9 => ?_)
        · skip
          refine ⟨_, fun hg46 => ⟨F25_2, T9, _, (tag85_ _ (by first | assumption | omega)), rfl⟩, ?_⟩
          exact AW_ret (ret_le2 (.inl rfl) rfl (by rw [termR, if_neg hc3, if_neg hc5, if_neg hc7, if_pos hc9] <;> rfl) (.refl _))
        · skip
          refine brD (fun hc11 => ?_) (fun hc11 => ?_)
          · skip
            refine ⟨_, fun hg54 => ⟨F25_2, T9, _, (iri84_ _ (by first | assumption | omega)), rfl⟩, _, fun hg59 => ⟨F25_2, T9, rfl⟩, ?_⟩
            exact AW_ret (ret_le2 (.inl rfl) rfl (by rw [termR, if_neg hc3, if_neg hc5, if_neg hc7, if_neg hc9, if_pos hc11] <;> rfl) (.refl _))
          · skip
            exact AW_ret (ret_le2 (.inl rfl) rfl (by rw [termR, if_neg hc3, if_neg hc5, if_neg hc7, if_neg hc9, if_neg hc11]) (.refl _))
abbrev t0 : Term := ⟨0, ⟨#[]⟩, ⟨#[]⟩⟩
abbrev s0 : Slot := ⟨⟨#[]⟩, t0⟩
abbrev p0 : Pat := ⟨s0, s0, s0⟩
def slotR (s : Slot) : Bool := if s.var = ⟨#[]⟩ then termR s.term else decide (s.term = t0) && wordF s.var 32
def patR (p : Pat) : Bool := (slotR p.a && slotR p.b) && slotR p.c
def partR (l : Lt) : Bool := if (decide (l.kind = 1) || decide (l.kind = 2)) = true then (patR l.pat && decide (l.a = s0)) && decide (l.b = s0) else (((decide (l.kind = 3) || decide (l.kind = 4)) && decide (l.pat = p0)) && slotR l.a) && slotR l.b
def bodyR (q : Bool) : List Lt → Bool
  | [] => q
  | x :: b => if (!partR x) = true then false else bodyR q b
def mayR (r : Rule) : Bool := if (r.body.length : Int) > 64 then false else bodyR (patR r.head) r.body
theorem slot64_ (s : Slot) (hok : okS s) : PFn PR (.fn (.func 77) [] []) [.agg (eSlot s)] (.lit (.bool (slotR s))) := by
  have h1 := hok.1
  refine PFn_of Go.Proofs.Tryz.func77 rfl (by rfl) Go.Proofs.Tryz.ntmps77 rfl (by simp) fun h => ?_
  refine AW_x [] [] ?_
  refine ⟨F41_0, T9, brD (fun hc1 => ?_) (fun hc1 => ?_)⟩
  · skip
    refine ⟨F41_1, T25, _, (term77_ _ (by first | assumption | exact hok.2)), ?_⟩
    exact AW_ret (ret_le2 (.inl rfl) rfl (by rw [slotR, if_pos hc1]) (.refl _))
  · skip
    refine ⟨F41_1, T25, (.agg (eTerm (⟨0, ⟨#[]⟩, ⟨#[]⟩⟩ : Term))), PO_build rfl z25 pl25 rfl rfl, _, q25 s.term (⟨0, ⟨#[]⟩, ⟨#[]⟩⟩ : Term), _, fun hg13 => ⟨F41_0, T9, _, (word_ _ _ (by first | assumption | omega)), rfl⟩, ?_⟩
    exact AW_ret (ret_le2 (.inl rfl) rfl (by rw [slotR, if_neg hc1]) (.refl _))
theorem pat45_ (p : Pat) (hok : okP p) : PFn PR (.fn (.func 62) [] []) [.agg (ePat p)] (.lit (.bool (patR p))) := by
  refine PFn_of Go.Proofs.Tryz.func62 rfl (by rfl) Go.Proofs.Tryz.ntmps62 rfl (by simp) fun h => ?_
  refine AW_x [] [] ?_
  refine ⟨A43, by decide, T41, _, (slot64_ _ (by first | assumption | exact hok.1 | exact hok.2.1 | exact hok.2.2)), _, fun hg6 => ⟨A43, by decide, T41, _, (slot64_ _ (by first | assumption | exact hok.1 | exact hok.2.1 | exact hok.2.2)), rfl⟩, _, fun hg11 => ⟨A43, by decide, T41, _, (slot64_ _ (by first | assumption | exact hok.1 | exact hok.2.1 | exact hok.2.2)), rfl⟩, ?_⟩
  exact AW_ret (ret_le2 (.inl rfl) rfl rfl (.refl _))
theorem part44_ (l : Lt) (hok : okL l) : PFn PR (.fn (.func 61) [] []) [.agg (eLit l)] (.lit (.bool (partR l))) := by
  refine PFn_of Go.Proofs.Tryz.func61 rfl (by rfl) Go.Proofs.Tryz.ntmps61 rfl (by simp) fun h => ?_
  refine AW_x [] [] ?_
  refine ⟨F68_0, T66, _, fun hg6 => ⟨F68_0, T66, rfl⟩, fun hc1 => ?_, fun hc1 => ?_⟩
  · skip
    refine ⟨F68_1, T43, _, (pat45_ _ (by first | assumption | exact hok.1)), _, fun hg14 => ⟨F68_2, T41, (.agg (eSlot (⟨⟨#[]⟩, (⟨0, ⟨#[]⟩, ⟨#[]⟩⟩ : Term)⟩ : Slot))), PO_build rfl z41 pl41 rfl rfl, _, q41 l.a (⟨⟨#[]⟩, (⟨0, ⟨#[]⟩, ⟨#[]⟩⟩ : Term)⟩ : Slot), rfl⟩, _, fun hg20 => ⟨F68_3, T41, (.agg (eSlot (⟨⟨#[]⟩, (⟨0, ⟨#[]⟩, ⟨#[]⟩⟩ : Term)⟩ : Slot))), PO_build rfl z41 pl41 rfl rfl, _, q41 l.b (⟨⟨#[]⟩, (⟨0, ⟨#[]⟩, ⟨#[]⟩⟩ : Term)⟩ : Slot), rfl⟩, ?_⟩
    exact AW_ret (ret_le2 (.inl rfl) rfl (by rw [partR, if_pos hc1]) (.refl _))
  · skip
    refine ⟨F68_0, T66, _, fun hg29 => ⟨F68_0, T66, rfl⟩, _, fun hg34 => ⟨F68_1, T43, (.agg (ePat (⟨(⟨⟨#[]⟩, (⟨0, ⟨#[]⟩, ⟨#[]⟩⟩ : Term)⟩ : Slot), (⟨⟨#[]⟩, (⟨0, ⟨#[]⟩, ⟨#[]⟩⟩ : Term)⟩ : Slot), (⟨⟨#[]⟩, (⟨0, ⟨#[]⟩, ⟨#[]⟩⟩ : Term)⟩ : Slot)⟩ : Pat))), PO_build_arr rfl z43 un43 ty41 rfl rfl, _, q43 l.pat (⟨(⟨⟨#[]⟩, (⟨0, ⟨#[]⟩, ⟨#[]⟩⟩ : Term)⟩ : Slot), (⟨⟨#[]⟩, (⟨0, ⟨#[]⟩, ⟨#[]⟩⟩ : Term)⟩ : Slot), (⟨⟨#[]⟩, (⟨0, ⟨#[]⟩, ⟨#[]⟩⟩ : Term)⟩ : Slot)⟩ : Pat), rfl⟩, _, fun hg40 => ⟨F68_2, T41, _, (slot64_ _ (by first | assumption | exact hok.1 | exact hok.2.1 | exact hok.2.2)), rfl⟩, _, fun hg45 => ⟨F68_3, T41, _, (slot64_ _ (by first | assumption | exact hok.1 | exact hok.2.1 | exact hok.2.2)), rfl⟩, ?_⟩
    exact AW_ret (ret_le2 (.inl rfl) rfl (by rw [partR, if_neg (by rw [hc1]; simp)]) (.refl _))
theorem may32_ (r : Rule) (hok : okR r) : PFn PR (.fn (.func 38) [] []) [.agg (eRule r)] (.lit (.bool (mayR r))) := by
  have hbl := hok.2.1
  refine PFn_of Go.Proofs.Tryz.func38 rfl (by rfl) Go.Proofs.Tryz.ntmps38 rfl (by simp) fun h => ?_
  refine AW_x [] [] ?_
  refine ⟨F46_1, T44, L44, _, lm, brD (fun hc1 => ?_) (fun hc1 => ?_)⟩
  · skip
    have hw : mayR r = false := by rw [mayR, if_pos hc1]
    exact AW_ret (ret_le2 (.inl rfl) rfl (by rw [hw]) (.refl _))
  · skip
    have hw : mayR r = bodyR (patR r.head) r.body := by rw [mayR, if_neg hc1]
    refine AW_it [] [] [(1, _), (2, _)] (fun (i : Nat) => [(3, .lit (.int .i64 ((i : Nat) : Int)))]) (fun (i : Nat) => h) (fun (i : Nat) => i ≤ r.body.length ∧ bodyR (patR r.head) r.body = bodyR (patR r.head) (r.body.drop i)) (fun (i : Nat) => r.body.length - i) (0) ⟨rfl, rfl, trivial⟩ ⟨rfl, trivial⟩ rfl (⟨by omega, rfl⟩) ?_
    rintro i ⟨hIi, hSi⟩
    refine ⟨F46_1, T44, L44, _, lm, brD (fun hc0 => ?_) (fun hc0 => ?_)⟩
    · skip
      obtain ⟨x, hrx, hdx, hmx⟩ := drop_at (l := r.body) (i := i) (by omega)
      rw [hdx, bodyR] at hSi
      have hxl := hok.2.2 x hmx
      refine ⟨F46_1, T44, L44, _, ⟨rfl, (by first | decide | omega), (mget hrx)⟩, T68, _, (part44_ _ (by first | assumption)), fun hc6 => ?_, fun hc6 => ?_⟩
      · skip
        rw [if_pos hc6] at hSi
        exact AW_ret (ret_le2 (.inl rfl) rfl (by rw [hw, hSi]) (.refl _))
      · skip
        rw [if_neg (by rw [hc6]; simp)] at hSi
        refine ⟨_, f1 (by first | omega | (simp_all <;> omega)), ?_⟩
        exact ⟨i + 1, ⟨by omega, hSi⟩, by omega, ⟨rfl, ⟨rfl, rfl, rfl, trivial⟩, rfl, rfl, rfl⟩⟩
    · skip
      rw [drop_end (l := r.body) (i := i) (by omega), bodyR] at hSi
      refine ⟨F46_0, T43, _, (pat45_ _ (by first | assumption | exact hok.1)), ?_⟩
      exact AW_ret (ret_le2 (.inl rfl) rfl (by rw [hw, hSi]) (.refl _))
def sameL : List Lt → List Lt → Bool
  | [], _ => true
  | _ :: _, [] => true
  | x :: l, y :: m => if x ≠ y then false else sameL l m
def sameR (a b : Rule) : Bool := if (decide (a.head ≠ b.head) || decide ((a.body.length : Int) ≠ (b.body.length : Int))) = true then false else sameL a.body b.body
theorem same20_ (a b : Rule) (ha : okR a) (hb : okR b) : PFn PR (.fn (.func 21) [] []) [.agg (eRule a), .agg (eRule b)] (.lit (.bool (sameR a b))) := by
  have hal := ha.2.1
  have hbl := hb.2.1
  refine PFn_of Go.Proofs.Tryz.func21 rfl (by rfl) Go.Proofs.Tryz.ntmps21 rfl (by simp) fun h => ?_
  refine AW_x [] [] ?_
  refine ⟨F46_0, T43, F46_0, T43, _, r43 a.head b.head, _, fun hg11 => ⟨F46_1, T44, L44, _, lm, F46_1, T44, L44, _, lm, rfl⟩, fun hc1 => ?_, fun hc1 => ?_⟩
  · skip
    have hw : sameR a b = false := by rw [sameR, if_pos hc1]
    exact AW_ret (ret_le2 (.inl rfl) rfl (by rw [hw]) (.refl _))
  · skip
    have hw : sameR a b = sameL a.body b.body := by rw [sameR, if_neg (by rw [hc1]; simp)]
    have hd1 := hc1
    simp only [Bool.or_eq_false_iff, decide_eq_false_iff_not] at hd1
    have hlen : a.body.length = b.body.length := by omega
    refine AW_it [] [] [(2, _), (3, _), (4, _)] (fun (i : Nat) => [(5, .lit (.int .i64 ((i : Nat) : Int)))]) (fun (i : Nat) => h) (fun (i : Nat) => i ≤ a.body.length ∧ sameL a.body b.body = sameL (a.body.drop i) (b.body.drop i)) (fun (i : Nat) => a.body.length - i) (0) ⟨rfl, rfl, rfl, trivial⟩ ⟨rfl, trivial⟩ rfl (⟨by omega, rfl⟩) ?_
    rintro i ⟨hIi, hSi⟩
    refine ⟨F46_1, T44, L44, _, lm, brD (fun hc0 => ?_) (fun hc0 => ?_)⟩
    · skip
      obtain ⟨x, hrx, hdx, hmx⟩ := drop_at (l := a.body) (i := i) (by omega)
      obtain ⟨y, hry, hdy, hmy⟩ := drop_at (l := b.body) (i := i) (by omega)
      rw [hdx, hdy, sameL] at hSi
      refine ⟨⟨hmixed, by kernel_rfl⟩, F46_1, T44, L44, _, ⟨rfl, (by first | decide | omega), (mget hrx)⟩, T68, F46_1, T44, L44, _, ⟨rfl, (by first | decide | omega), (mget hry)⟩, T68, _, r68 x y, brD (fun hc6 => ?_) (fun hc6 => ?_)⟩
      · skip
        rw [if_pos hc6] at hSi
        exact AW_ret (ret_le2 (.inl rfl) rfl (by rw [hw, hSi]) (.refl _))
      · skip
        rw [if_neg hc6] at hSi
        refine ⟨_, f1 (by first | omega | (simp_all <;> omega)), ?_⟩
        exact ⟨i + 1, ⟨by omega, hSi⟩, by omega, ⟨rfl, ⟨rfl, rfl, rfl, rfl, trivial⟩, rfl, rfl, rfl⟩⟩
    · skip
      rw [drop_end (l := a.body) (i := i) (by omega), sameL] at hSi
      exact AW_ret (ret_le2 (.inl rfl) rfl (by rw [hw, hSi]) (.refl _))
end Go.AM.Tryd
end
section
set_option maxRecDepth 100000
set_option maxHeartbeats 4000000
set_option linter.unusedVariables false
set_option linter.unusedSimpArgs false
namespace Go.AM.Tryd
open Go Go.AM Go.AM.D
def slotsR (l : Lt) : List Slot := if (decide (l.kind = 1) || decide (l.kind = 2)) = true then [l.pat.a, l.pat.b, l.pat.c] else [l.a, l.b]
theorem slotsR_len (l : Lt) : 2 ≤ (slotsR l).length ∧ (slotsR l).length ≤ 3 := by unfold slotsR; split <;> simp
theorem slotsR_ok {l : Lt} (h : okL l) : ∀ s ∈ slotsR l, s.var.size ≤ 1048576 := by
  obtain ⟨⟨h1, h2, h3⟩, h4, h5⟩ := h
  intro s hs
  unfold slotsR at hs
  split at hs <;> simp only [List.mem_cons, List.not_mem_nil, or_false] at hs
  · rcases hs with rfl | rfl | rfl
    · exact h1.1
    · exact h2.1
    · exact h3.1
  · rcases hs with rfl | rfl
    · exact h4.1
    · exact h5.1
theorem slots46_ (l : Lt) : PFn PR (.fn (.func 63) [] []) [.agg (eLit l)] (.sl .any 4 ((slotsR l).map eSlot)) := by
  refine PFn_of Go.Proofs.Tryz.func63 rfl (by rfl) Go.Proofs.Tryz.ntmps63 rfl (by simp) fun h => ?_
  refine AW_x [] [] ?_
  refine ⟨4, F68_0, T66, _, fun hg6 => ⟨F68_0, T66, rfl⟩, fun hc1 => ?_, fun hc1 => ?_⟩
  · skip
    refine ⟨F68_1, A43, by decide, T41, F68_1, A43, by decide, T41, F68_1, A43, by decide, T41, (.sl .full 4 ([l.pat.a, l.pat.b, l.pat.c].map eSlot)), PO_buildSlice (n := 3) (S := 4) (rs := eSlot l.pat.a ++ (eSlot l.pat.b ++ (eSlot l.pat.c ++ []))) rfl un106 ty41 z41 rfl rfl rfl (by decide) rfl (by decide), ?_⟩
    refine AW_any (k := 2) rfl ?_
    exact AW_ret (ret_le2 (.inl rfl) rfl (by rw [slotsR, if_pos hc1]) (.refl _))
  · skip
    refine ⟨F68_2, T41, F68_3, T41, (.sl .full 4 ([l.a, l.b].map eSlot)), PO_buildSlice (n := 2) (S := 4) (rs := eSlot l.a ++ (eSlot l.b ++ [])) rfl un106 ty41 z41 rfl rfl rfl (by decide) rfl (by decide), ?_⟩
    refine AW_any (k := 2) rfl ?_
    exact AW_ret (ret_le2 (.inl rfl) rfl (by rw [slotsR, if_neg (by rw [hc1]; simp)]) (.refl _))
def allL : List Lt → List Slot → List Slot
  | [], acc => acc
  | x :: b, acc => allL b (acc ++ slotsR x)
def varL : List Slot → List ByteArray → List ByteArray
  | [], acc => acc
  | s :: l, acc => if (decide (s.var ≠ ⟨#[]⟩) && !inF s.var acc) = true then varL l (acc ++ [s.var]) else varL l acc
def allR (r : Rule) : List Slot := allL r.body [r.head.a, r.head.b, r.head.c]
def varsR (r : Rule) : List ByteArray := varL (allR r) []
theorem allL_len : ∀ (b : List Lt) (acc : List Slot), (allL b acc).length ≤ acc.length + 3 * b.length := by
  intro b
  induction b with
  | nil => intro acc; simp [allL]
  | cons x b ih =>
    intro acc
    have h1 := ih (acc ++ slotsR x)
    have h2 := slotsR_len x
    simp only [allL, List.length_append, List.length_cons] at h1 ⊢
    omega
theorem varL_len : ∀ (b : List Slot) (acc : List ByteArray), (varL b acc).length ≤ acc.length + b.length := by
  intro b
  induction b with
  | nil => intro acc; simp [varL]
  | cons x b ih =>
    intro acc
    simp only [varL]
    split
    · have := ih (acc ++ [x.var]); simp only [List.length_append, List.length_cons, List.length_nil] at this ⊢; omega
    · have := ih acc; simp only [List.length_cons]; omega
theorem vars33_ (r : Rule) (hok : okR r) : PFn PR (.fn (.func 39) [] []) [.agg (eRule r)] (.sl .any 1 ((varsR r).map eStr)) := by
  have hbl := hok.2.1
  refine PFn_of Go.Proofs.Tryz.func39 rfl (by rfl) Go.Proofs.Tryz.ntmps39 rfl (by simp) fun h => ?_
  refine AW_x [] [] ?_
  refine ⟨1, 1, F46_0, A43, by decide, T41, F46_0, A43, by decide, T41, F46_0, A43, by decide, T41, (.sl .full 4 ([r.head.a, r.head.b, r.head.c].map eSlot)), PO_buildSlice (n := 3) (S := 4) (rs := eSlot r.head.a ++ (eSlot r.head.b ++ (eSlot r.head.c ++ []))) rfl un106 ty41 z41 rfl rfl rfl (by decide) rfl (by decide), ?_⟩
  refine AW_it [] [] [(1, _), (2, _), (3, _)] (fun (z_ : Nat × List Slot × Own × Heap) => match z_ with | (i, acc, own, hp) => [(5, .lit (.int .i64 ((i : Nat) : Int))), (4, .sl own 4 (acc.map eSlot))]) (fun (z_ : Nat × List Slot × Own × Heap) => match z_ with | (i, acc, own, hp) => hp) (fun (z_ : Nat × List Slot × Own × Heap) => match z_ with | (i, acc, own, hp) => i ≤ r.body.length ∧ allR r = allL (r.body.drop i) acc ∧ acc.length ≤ 3 + 3 * i ∧ Grow h 4 acc.length own hp) (fun (z_ : Nat × List Slot × Own × Heap) => match z_ with | (i, acc, own, hp) => r.body.length - i) ((0, [r.head.a, r.head.b, r.head.c], .full, h)) ⟨rfl, rfl, rfl, trivial⟩ ⟨rfl, rfl, trivial⟩ rfl (⟨by omega, rfl, by simp, Grow.full _ _ _⟩) ?_
  rintro ⟨i, acc, own, hp⟩ ⟨hIi, hSi, hA, hG⟩
  refine ⟨F46_1, T44, L44, _, lm, brD (fun hc4 => ?_) (fun hc4 => ?_)⟩
  · skip
    obtain ⟨x, hrx, hdx, hmx⟩ := drop_at (l := r.body) (i := i) (by omega)
    rw [hdx, allL] at hSi
    have hsl := slotsR_len x
    refine ⟨F46_1, T44, L44, _, ⟨rfl, (by first | decide | omega), (mget hrx)⟩, T68, _, (slots46_ _), ?_⟩
    refine AL_m rfl rfl rfl (MO_grow (acc := acc) (f := eSlot) rfl un106 un106 ty41 z41 rfl by41 rfl rfl (.inl rfl) (by first | omega | simp) hG (by omega) (by omega)) ?_
    rintro _ h1 ⟨own1, rfl, hG1⟩
    refine AL_x [] [] 8 ?_
    refine ⟨_, f1 (by first | omega | (simp_all <;> omega)), ?_⟩
    exact ⟨(i + 1, acc ++ slotsR x, own1, h1), ⟨by omega, hSi, by rw [List.length_append]; omega, hG1⟩, by simp only []; omega, ⟨rfl, ⟨rfl, rfl, rfl, rfl, rfl, trivial⟩, rfl, rfl, rfl⟩⟩
  · skip
    rw [drop_end (l := r.body) (i := i) (by omega), allL] at hSi
    refine AW_it [] [] [(4, _), (2, _)] (fun (z_ : Nat × List ByteArray × Own × Heap) => match z_ with | (k, out, own2, hp2) => [(6, .lit (.int .i64 ((k : Nat) : Int))), (3, .sl own2 1 (out.map eStr))]) (fun (z_ : Nat × List ByteArray × Own × Heap) => match z_ with | (k, out, own2, hp2) => hp2) (fun (z_ : Nat × List ByteArray × Own × Heap) => match z_ with | (k, out, own2, hp2) => k ≤ acc.length ∧ varsR r = varL (acc.drop k) out ∧ out.length ≤ k ∧ Grow hp 1 out.length own2 hp2) (fun (z_ : Nat × List ByteArray × Own × Heap) => match z_ with | (k, out, own2, hp2) => acc.length - k) ((0, [], .nil, hp)) ⟨rfl, rfl, trivial⟩ ⟨rfl, rfl, trivial⟩ rfl (⟨by omega, by rw [varsR, hSi]; rfl, by simp, Grow.nil _ _ _⟩) ?_
    rintro ⟨k, out, own2, hp2⟩ ⟨hIk, hSk, hB, hGv⟩
    refine ⟨L106, _, lm, brD (fun hc8 => ?_) (fun hc8 => ?_)⟩
    · skip
      obtain ⟨s, hrs, hds, hms⟩ := drop_at (l := acc) (i := k) (by omega)
      rw [hds, varL] at hSk
      refine ⟨L106, _, ⟨rfl, (by first | decide | omega), (mget hrs)⟩, F41_0, T9, _, fun hg44 => ⟨L106, _, ⟨rfl, (by first | decide | omega), (mget hrs)⟩, F41_0, T9, _, (in34_ _ _ _ (by first | assumption | omega)), rfl⟩, fun hc10 => ?_, fun hc10 => ?_⟩
      · skip
        rw [if_pos hc10] at hSk
        refine ⟨L106, _, ⟨rfl, (by first | decide | omega), (mget hrs)⟩, F41_0, T9, (.sl .full 1 ([s.var].map eStr)), PO_buildSlice (n := 1) (S := 1) (rs := [.lit (.string s.var)] ++ []) rfl un90 ty9 z9 rfl rfl rfl (by decide) rfl (by decide), ?_⟩
        refine AL_m rfl rfl rfl (MO_grow (acc := out) (f := eStr) rfl un90 un90 ty9 z9 rfl by9 rfl rfl (.inl rfl) (by first | omega | simp) hGv (by simp only [List.length_singleton]; omega) (by simp only [List.length_singleton]; omega)) ?_
        rintro _ h2 ⟨own2, rfl, hG2⟩
        refine AL_x [] [] 8 ?_
        refine ⟨_, f1 (by first | omega | (simp_all <;> omega)), ?_⟩
        exact ⟨(k + 1, out ++ [s.var], _, _), ⟨by omega, hSk, by simp only [List.length_append, List.length_singleton]; omega, hG2⟩, by simp only []; omega, ⟨rfl, ⟨rfl, rfl, rfl, rfl, trivial⟩, rfl, rfl, rfl⟩⟩
      · skip
        rw [if_neg (by rw [hc10]; simp)] at hSk
        refine ⟨_, f1 (by first | omega | (simp_all <;> omega)), ?_⟩
        exact ⟨(k + 1, out, own2, hp2), ⟨by omega, hSk, by omega, hGv⟩, by simp only []; omega, ⟨rfl, ⟨rfl, rfl, rfl, rfl, trivial⟩, rfl, rfl, rfl⟩⟩
    · skip
      rw [drop_end (l := acc) (i := k) (by omega), varL] at hSk
      refine AW_any (k := 2) rfl ?_
      exact AW_ret (ret_le2 (.inl rfl) rfl (by rw [hSk]) (hG.le.trans hGv.le))
end Go.AM.Tryd
end
section
set_option maxRecDepth 100000
set_option maxHeartbeats 4000000
set_option linter.unusedVariables false
set_option linter.unusedSimpArgs false
namespace Go.AM.Tryd
open Go Go.AM Go.AM.D
def patAt (p : Pat) : Nat → Slot
  | 0 => p.a
  | 1 => p.b
  | _ => p.c
def vs3 (p : Pat) : List ByteArray := [p.a.var, p.b.var, p.c.var]
theorem vs3_take {p : Pat} {k : Nat} (h : k < 3) : (vs3 p).take (k + 1) = (vs3 p).take k ++ [(patAt p k).var] := by
  rcases k with _ | _ | _ | k <;> first | rfl | omega
def givenL : List Lt → List ByteArray → List ByteArray
  | [], acc => acc
  | x :: b, acc => if x.kind ≠ 1 then givenL b acc else givenL b (acc ++ vs3 x.pat)
def givenR (r : Rule) : List ByteArray := givenL r.body []
def checkL (given : List ByteArray) : List ByteArray → Int
  | [] => 0
  | v :: l => if (!inF v given) = true then 5 else checkL given l
def ruleQ (r : Rule) : Int := if (!mayR r) = true then 2 else checkL (givenR r) (varsR r)
theorem varsR_len {r : Rule} (h : okR r) : (varsR r).length ≤ 3145731 := by
  have h1 := varL_len (allR r) []
  have h2 := allL_len r.body [r.head.a, r.head.b, r.head.c]
  have h3 := h.2.1
  simp only [List.length_cons, List.length_nil] at h1 h2
  have h4 : (varsR r).length ≤ 0 + (allR r).length := h1
  have h5 : (allR r).length ≤ _ := h2
  omega
theorem rule19_ (r : Rule) (hok : okR r) : PFn PR (.fn (.func 19) [] []) [.agg (eRule r)] (.lit (.int .i64 (ruleQ r))) := by
  have hbl := hok.2.1
  have hvl := varsR_len hok
  refine PFn_of Go.Proofs.Tryz.func19 rfl (by rfl) Go.Proofs.Tryz.ntmps19 rfl (by simp) fun h => ?_
  refine AW_x [] [] ?_
  refine ⟨T46, _, (may32_ _ (by first | assumption)), fun hc1 => ?_, fun hc1 => ?_⟩
  · skip
    have hw : ruleQ r = 2 := by rw [ruleQ, if_pos hc1]
    exact AW_ret (ret_le2 (.inl rfl) rfl (by rw [hw]) (.refl _))
  · skip
    have hw : ruleQ r = checkL (givenR r) (varsR r) := by rw [ruleQ, if_neg (by rw [hc1]; simp)]
    refine ⟨1, ?_⟩
    refine AW_it [] [] [(1, _), (2, _)] (fun (z_ : Nat × List ByteArray × Own × Heap) => match z_ with | (i, acc, own, hp) => [(4, .lit (.int .i64 ((i : Nat) : Int))), (3, .sl own 1 (acc.map eStr))]) (fun (z_ : Nat × List ByteArray × Own × Heap) => match z_ with | (i, acc, own, hp) => hp) (fun (z_ : Nat × List ByteArray × Own × Heap) => match z_ with | (i, acc, own, hp) => i ≤ r.body.length ∧ givenR r = givenL (r.body.drop i) acc ∧ acc.length ≤ 3 * i ∧ Grow h 1 acc.length own hp) (fun (z_ : Nat × List ByteArray × Own × Heap) => match z_ with | (i, acc, own, hp) => r.body.length - i) ((0, [], .nil, h)) ⟨rfl, rfl, trivial⟩ ⟨rfl, rfl, trivial⟩ rfl (⟨by omega, rfl, by simp, Grow.nil _ _ _⟩) ?_
    rintro ⟨i, acc, own, hp⟩ ⟨hIi, hSi, hA, hG⟩
    refine ⟨F46_1, T44, L44, _, lm, brD (fun hc5 => ?_) (fun hc5 => ?_)⟩
    · skip
      obtain ⟨x, hrx, hdx, hmx⟩ := drop_at (l := r.body) (i := i) (by omega)
      rw [hdx, givenL] at hSi
      refine ⟨F46_1, T44, L44, _, ⟨rfl, (by first | decide | omega), (mget hrx)⟩, F68_0, T66, brD (fun hc7 => ?_) (fun hc7 => ?_)⟩
      · skip
        rw [if_pos hc7] at hSi
        refine ⟨_, f1 (by first | omega | (simp_all <;> omega)), ?_⟩
        exact ⟨(i + 1, acc, own, hp), ⟨by omega, hSi, by omega, hG⟩, by simp only []; omega, ⟨rfl, ⟨rfl, rfl, rfl, rfl, trivial⟩, rfl, rfl, rfl⟩⟩
      · skip
        rw [if_neg hc7] at hSi
        refine AW_it [] [(11, 7), (11, 9)] [(4, _), (1, _), (2, _)] (fun (z_ : Nat × List ByteArray × Own × Heap) => match z_ with | (k, out, own2, hp2) => [(5, .lit (.int .i64 ((k : Nat) : Int))), (3, .sl own2 1 (out.map eStr))]) (fun (z_ : Nat × List ByteArray × Own × Heap) => match z_ with | (k, out, own2, hp2) => hp2) (fun (z_ : Nat × List ByteArray × Own × Heap) => match z_ with | (k, out, own2, hp2) => k ≤ 3 ∧ out = acc ++ (vs3 x.pat).take k ∧ Grow h 1 out.length own2 hp2) (fun (z_ : Nat × List ByteArray × Own × Heap) => match z_ with | (k, out, own2, hp2) => 3 - k) ((0, acc, own, hp)) ⟨rfl, rfl, rfl, trivial⟩ ⟨rfl, rfl, trivial⟩ rfl (⟨by omega, by simp, hG⟩) ?_
        rintro ⟨k, out, own2, hp2⟩ ⟨hIk, hO, hGv⟩
        have hol : out.length ≤ 3 * i + 3 := by rw [hO, List.length_append, List.length_take]; omega
        refine brD (fun hc9 => ?_) (fun hc9 => ?_)
        · skip
          refine ⟨F46_1, T44, L44, _, ⟨rfl, (by first | decide | omega), (mget hrx)⟩, F68_1, (.ip (List.drop (k * 4) (List.drop 1 (eLit x)))), PO_indexAddr_arr (i := ((k : Nat) : Int)) rfl un43 ty41 rfl rfl (by omega) (by omega), F41_0, (.lit (.string ((patAt x.pat k).var))), PO_load rfl ty9 rfl (by rcases k with _ | _ | _ | k <;> first | rfl | omega), (.sl .full 1 ([(patAt x.pat k).var].map eStr)), PO_buildSlice (n := 1) (S := 1) (rs := [.lit (.string ((patAt x.pat k).var))] ++ []) rfl un90 ty9 z9 rfl rfl rfl (by decide) rfl (by decide), ?_⟩
          refine AL_m rfl rfl rfl (MO_grow (acc := out) (f := eStr) rfl un90 un90 ty9 z9 rfl by9 rfl rfl (.inl rfl) (by first | omega | simp) hGv (by simp only [List.length_singleton]; omega) (by simp only [List.length_singleton]; omega)) ?_
          rintro _ h1 ⟨own1, rfl, hG1⟩
          refine AL_x [] [] 12 ?_
          refine ⟨_, f1 (by first | omega | (simp_all <;> omega)), ?_⟩
          exact ⟨(k + 1, out ++ [(patAt x.pat k).var], _, _), ⟨by omega, by rw [hO, vs3_take (by omega), List.append_assoc], hG1⟩, by simp only []; omega, ⟨rfl, ⟨rfl, rfl, rfl, rfl, rfl, trivial⟩, rfl, rfl, rfl⟩⟩
        · skip
          rw [show k = 3 by omega, List.take_of_length_le (by simp [vs3])] at hO
          rw [← hO] at hSi
          refine ⟨_, f1 (by first | omega | (simp_all <;> omega)), ?_⟩
          exact ⟨(i + 1, out, own2, hp2), ⟨by omega, hSi, by rw [hO, List.length_append]; simp only [vs3, List.length_cons, List.length_nil]; omega, hGv⟩, by simp only []; omega, ⟨rfl, ⟨rfl, rfl, rfl, rfl, trivial⟩, rfl, rfl, rfl⟩⟩
    · skip
      rw [drop_end (l := r.body) (i := i) (by omega), givenL] at hSi
      rw [hSi] at hw
      refine ⟨T46, _, (vars33_ _ (by first | assumption)), ?_⟩
      refine AW_it [] [] [(3, _), (2, _), (6, _)] (fun (q : Nat) => [(7, .lit (.int .i64 ((q : Nat) : Int)))]) (fun (q : Nat) => hp) (fun (q : Nat) => q ≤ (varsR r).length ∧ ruleQ r = checkL acc ((varsR r).drop q)) (fun (q : Nat) => (varsR r).length - q) (0) ⟨rfl, rfl, rfl, trivial⟩ ⟨rfl, trivial⟩ rfl (⟨by omega, by rw [hw]; rfl⟩) ?_
      rintro q ⟨hIq, hSq⟩
      refine ⟨L90, _, lm, brD (fun hc4 => ?_) (fun hc4 => ?_)⟩
      · skip
        obtain ⟨v, hrv, hdv, hmv⟩ := drop_at (l := (varsR r)) (i := q) (by omega)
        rw [hdv, checkL] at hSq
        refine ⟨L90, _, ⟨rfl, (by first | decide | omega), (mget hrv)⟩, T9, _, (in34_ _ _ _ (by first | assumption | omega)), fun hc16 => ?_, fun hc16 => ?_⟩
        · skip
          rw [if_pos hc16] at hSq
          exact AW_ret (ret_le2 (.inl rfl) rfl (by rw [hSq]) hG.le)
        · skip
          rw [if_neg (by rw [hc16]; simp)] at hSq
          refine ⟨_, f1 (by first | omega | (simp_all <;> omega)), ?_⟩
          exact ⟨q + 1, ⟨by omega, hSq⟩, by omega, ⟨rfl, ⟨rfl, rfl, rfl, rfl, trivial⟩, rfl, rfl, rfl⟩⟩
      · skip
        rw [drop_end (l := (varsR r)) (i := q) (by omega), checkL] at hSq
        exact AW_ret (ret_le2 (.inl rfl) rfl (by rw [hSq]) hG.le)
def errL : List Rule → Int
  | [] => 0
  | r :: l => if ruleQ r ≠ 0 then ruleQ r else errL l
def notB : List Lt → Bool
  | [] => false
  | x :: b => if (decide (x.kind = 2) && decide (x.pat.b.var ≠ ⟨#[]⟩)) = true then true else notB b
def notL : List Rule → Bool
  | [] => false
  | r :: l => if r.head.b.var ≠ ⟨#[]⟩ then true else if notB r.body = true then true else notL l
def dupIn (r : Rule) : List Rule → Bool
  | [] => false
  | o :: m => if sameR r o = true then true else dupIn r m
def dupL (all : List Rule) : Nat → List Rule → Bool
  | _, [] => false
  | i, r :: l => if dupIn r (all.take i) = true then true else dupL all (i + 1) l
def progR (l : List Rule) : Int := if errL l ≠ 0 then errL l else if (negF l && notL l) = true then 5 else if dupL l 0 l = true then 8 else if (l.length : Int) > 1000 then 9 else 0
theorem errL_step {l : List Rule} : errL l = 0 → progR l = if (negF l && notL l) = true then 5 else if dupL l 0 l = true then 8 else if (l.length : Int) > 1000 then 9 else 0 := by
  intro h; rw [progR, if_neg (by simp [h])]
theorem prog13_ (l : List Rule) (hl : okRs l) : PFn PR (.fn (.func 7) [] []) [.sl .any 13 (l.map eRule)] (.lit (.int .i64 (progR l))) := by
  have hl1 := hl.1
  refine PFn_of Go.Proofs.Tryz.func7 rfl (by rfl) Go.Proofs.Tryz.ntmps7 rfl (by simp) fun h => ?_
  refine AW_x [(7, 0)] [] ?_
  refine AW_it [] [] [(0, _), (2, _)] (fun (i : Nat) => [(3, .lit (.int .i64 ((i : Nat) : Int)))]) (fun (i : Nat) => h) (fun (i : Nat) => i ≤ l.length ∧ errL l = errL (l.drop i)) (fun (i : Nat) => l.length - i) (0) ⟨rfl, rfl, trivial⟩ ⟨rfl, trivial⟩ rfl (⟨by omega, rfl⟩) ?_
  rintro i ⟨hIi, hSi⟩
  refine ⟨L22, _, lm, brD (fun hc0 => ?_) (fun hc0 => ?_)⟩
  · skip
    obtain ⟨r, hrr, hdr, hmr⟩ := drop_at (l := l) (i := i) (by omega)
    rw [hdr, errL] at hSi
    have hokr := hl.2 r hmr
    refine ⟨L22, _, ⟨rfl, (by first | decide | omega), (mget hrr)⟩, T46, _, (rule19_ _ (by first | assumption)), brD (fun hc5 => ?_) (fun hc5 => ?_)⟩
    · skip
      rw [if_pos hc5] at hSi
      have hw1 : progR l = ruleQ r := by rw [progR, hSi, if_pos hc5]
      exact AW_ret (ret_le2 (.inl rfl) rfl (by rw [hw1]) (.refl _))
    · skip
      rw [if_neg hc5] at hSi
      refine ⟨_, f1 (by first | omega | (simp_all <;> omega)), ?_⟩
      exact ⟨i + 1, ⟨by omega, hSi⟩, by omega, ⟨rfl, ⟨rfl, rfl, rfl, trivial⟩, rfl, rfl, rfl⟩⟩
  · skip
    rw [drop_end (l := l) (i := i) (by omega), errL] at hSi
    have hw := errL_step hSi
    refine AW_join (α := Unit) (fun _ => [(0, .sl .any 13 (l.map eRule)), (2, .lit (.int .i64 0))]) (fun _ => h) (fun _ => progR l = if dupL l 0 l = true then 8 else if (l.length : Int) > 1000 then 9 else 0) ?_ ?_
    · skip
      refine AW_x [] [] ?_
      refine ⟨_, (neg17_ _ (by assumption)), fun hc7 => ?_, fun hc7 => ?_⟩
      · skip
        refine AW_it [] [] [(0, _), (2, _)] (fun (j : Nat) => [(5, .lit (.int .i64 ((j : Nat) : Int)))]) (fun (j : Nat) => h) (fun (j : Nat) => j ≤ l.length ∧ notL l = notL (l.drop j)) (fun (j : Nat) => l.length - j) (0) ⟨rfl, rfl, trivial⟩ ⟨rfl, trivial⟩ rfl (⟨by omega, rfl⟩) ?_
        rintro j ⟨hIj, hSj⟩
        refine ⟨L22, _, lm, brD (fun hc2 => ?_) (fun hc2 => ?_)⟩
        · skip
          obtain ⟨r, hrr, hdr, hmr⟩ := drop_at (l := l) (i := j) (by omega)
          rw [hdr, notL] at hSj
          have hbl := (hl.2 r hmr).2.1
          refine ⟨L22, _, ⟨rfl, (by first | decide | omega), (mget hrr)⟩, F46_0, A43, by decide, F41_0, T9, brD (fun hc11 => ?_) (fun hc11 => ?_)⟩
          · skip
            rw [if_pos hc11] at hSj
            rw [hc7, hSj, if_pos (by rfl)] at hw
            exact AW_ret (ret_le2 (.inl rfl) rfl (by rw [hw]) (.refl _))
          · skip
            rw [if_neg hc11] at hSj
            refine AW_it [] [] [(5, _), (0, _), (2, _)] (fun (k : Nat) => [(6, .lit (.int .i64 ((k : Nat) : Int)))]) (fun (k : Nat) => h) (fun (k : Nat) => k ≤ r.body.length ∧ notB r.body = notB (r.body.drop k)) (fun (k : Nat) => r.body.length - k) (0) ⟨rfl, rfl, rfl, trivial⟩ ⟨rfl, trivial⟩ rfl (⟨by omega, rfl⟩) ?_
            rintro k ⟨hIk, hSk⟩
            refine ⟨L22, _, ⟨rfl, (by first | decide | omega), (mget hrr)⟩, F46_1, T44, L44, _, lm, brD (fun hc4 => ?_) (fun hc4 => ?_)⟩
            · skip
              obtain ⟨x, hrx, hdx, hmx⟩ := drop_at (l := r.body) (i := k) (by omega)
              rw [hdx, notB] at hSk
              refine ⟨L22, _, ⟨rfl, (by first | decide | omega), (mget hrr)⟩, F46_1, T44, L44, _, ⟨rfl, (by first | decide | omega), (mget hrx)⟩, F68_0, T66, _, fun hg59 => ⟨L22, _, ⟨rfl, (by first | decide | omega), (mget hrr)⟩, F46_1, T44, L44, _, ⟨rfl, (by first | decide | omega), (mget hrx)⟩, F68_1, A43, by decide, F41_0, T9, rfl⟩, fun hc16 => ?_, fun hc16 => ?_⟩
              · skip
                rw [if_pos hc16] at hSk
                rw [if_pos hSk] at hSj
                rw [hc7, hSj, if_pos (by rfl)] at hw
                exact AW_ret (ret_le2 (.inl rfl) rfl (by rw [hw]) (.refl _))
              · skip
                rw [if_neg (by rw [hc16]; simp)] at hSk
                refine ⟨_, f1 (by first | omega | (simp_all <;> omega)), ?_⟩
                exact ⟨k + 1, ⟨by omega, hSk⟩, by omega, ⟨rfl, ⟨rfl, rfl, rfl, rfl, trivial⟩, rfl, rfl, rfl⟩⟩
            · skip
              rw [drop_end (l := r.body) (i := k) (by omega), notB] at hSk
              rw [hSk, if_neg (by simp)] at hSj
              refine ⟨_, f1 (by first | omega | (simp_all <;> omega)), ?_⟩
              exact ⟨j + 1, ⟨by omega, hSj⟩, by omega, ⟨rfl, ⟨rfl, rfl, rfl, trivial⟩, rfl, rfl, rfl⟩⟩
        · skip
          rw [drop_end (l := l) (i := j) (by omega), notL] at hSj
          have hw2 : progR l = if dupL l 0 l = true then 8 else if (l.length : Int) > 1000 then 9 else 0 := by rw [hw, if_neg (by rw [hc7, hSj]; simp)]
          exact ⟨(), hw2, ⟨rfl, ⟨rfl, rfl, trivial⟩, rfl, rfl, rfl⟩⟩
      · skip
        have hw2 : progR l = if dupL l 0 l = true then 8 else if (l.length : Int) > 1000 then 9 else 0 := by rw [hw, if_neg (by rw [hc7]; simp)]
        exact ⟨(), hw2, ⟨rfl, ⟨rfl, rfl, trivial⟩, rfl, rfl, rfl⟩⟩
    · rintro _ hw2
      refine AW_x [] [] ?_
      refine AW_it [] [] [(0, _), (2, _)] (fun (m : Nat) => [(7, .lit (.int .i64 ((m : Nat) : Int)))]) (fun (m : Nat) => h) (fun (m : Nat) => m ≤ l.length ∧ dupL l 0 l = dupL l m (l.drop m)) (fun (m : Nat) => l.length - m) (0) ⟨rfl, rfl, trivial⟩ ⟨rfl, trivial⟩ rfl (⟨by omega, rfl⟩) ?_
      rintro m ⟨hIm, hSm⟩
      refine ⟨L22, _, lm, brD (fun hc6 => ?_) (fun hc6 => ?_)⟩
      · skip
        obtain ⟨r, hrr, hdr, hmr⟩ := drop_at (l := l) (i := m) (by omega)
        rw [hdr, dupL] at hSm
        have hokr := hl.2 r hmr
        refine AW_it [] [] [(7, _), (0, _), (2, _)] (fun (p : Nat) => [(8, .lit (.int .i64 ((p : Nat) : Int)))]) (fun (p : Nat) => h) (fun (p : Nat) => p ≤ (l.take m).length ∧ dupIn r (l.take m) = dupIn r ((l.take m).drop p)) (fun (p : Nat) => (l.take m).length - p) (0) ⟨rfl, rfl, rfl, trivial⟩ ⟨rfl, trivial⟩ rfl (⟨by omega, rfl⟩) ?_
        rintro p ⟨hIp, hSp⟩
        have htk : (l.take m).length = m := by rw [List.length_take]; omega
        refine brD (fun hc8 => ?_) (fun hc8 => ?_)
        · skip
          obtain ⟨y, hry, hdy, hmy⟩ := drop_at (l := (l.take m)) (i := p) (by omega)
          rw [hdy, dupIn] at hSp
          have hlty : l[p]? = some y := by rw [List.getElem?_take, if_pos (by omega)] at hry; exact hry
          have hoky := hl.2 y (List.mem_of_getElem? hlty)
          refine ⟨⟨hmixed, by kernel_rfl⟩, L22, _, ⟨rfl, (by first | decide | omega), (mget hrr)⟩, T46, L22, _, ⟨rfl, (by first | decide | omega), (mget hlty)⟩, T46, _, (same20_ _ _ (by assumption) (by assumption)), fun hc24 => ?_, fun hc24 => ?_⟩
          · skip
            rw [if_pos hc24] at hSp
            rw [if_pos hSp] at hSm
            rw [hSm, if_pos rfl] at hw2
            exact AW_ret (ret_le2 (.inl rfl) rfl (by rw [hw2]) (.refl _))
          · skip
            rw [if_neg (by rw [hc24]; simp)] at hSp
            refine ⟨_, f1 (by first | omega | (simp_all <;> omega)), ?_⟩
            exact ⟨p + 1, ⟨by omega, hSp⟩, by omega, ⟨rfl, ⟨rfl, rfl, rfl, rfl, trivial⟩, rfl, rfl, rfl⟩⟩
        · skip
          rw [drop_end (l := (l.take m)) (i := p) (by omega), dupIn] at hSp
          rw [hSp, if_neg (by simp)] at hSm
          refine ⟨_, f1 (by first | omega | (simp_all <;> omega)), ?_⟩
          exact ⟨m + 1, ⟨by omega, hSm⟩, by omega, ⟨rfl, ⟨rfl, rfl, rfl, trivial⟩, rfl, rfl, rfl⟩⟩
      · skip
        rw [drop_end (l := l) (i := m) (by omega), dupL] at hSm
        rw [hSm, if_neg (by simp)] at hw2
        refine ⟨L22, _, lm, brD (fun hc26 => ?_) (fun hc26 => ?_)⟩
        · skip
          rw [if_pos hc26] at hw2
          exact AW_ret (ret_le2 (.inl rfl) rfl (by rw [hw2]) (.refl _))
        · skip
          rw [if_neg hc26] at hw2
          exact AW_ret (ret_le2 (.inl rfl) rfl (by rw [hw2]) (.refl _))
end Go.AM.Tryd
end
section
set_option maxRecDepth 100000
set_option maxHeartbeats 4000000
set_option linter.unusedVariables false
set_option linter.unusedSimpArgs false
namespace Go.AM.Tryd
open Go Go.AM Go.AM.D
def headF (c : Int) : Int × Int :=
  if c < 128 then (IntKind.wrap .i64 c, 0) else if (decide (c ≥ 194) && decide (c < 224)) = true then (IntKind.wrap .i64 (andI .u8 c 31), 1) else if (decide (c ≥ 224) && decide (c < 240)) = true then (IntKind.wrap .i64 (andI .u8 c 15), 2) else if (decide (c ≥ 240) && decide (c < 245)) = true then (IntKind.wrap .i64 (andI .u8 c 7), 3) else (0, -1)
theorem head_ (c : Int) : PFn PR (.fn (.func 117) [] []) [.lit (.int .u8 c)] (.tup [.lit (.int .i64 ((headF c).1)), .lit (.int .i64 ((headF c).2))]) := by
  refine PFn_of Go.Proofs.Tryz.func117 rfl (by rfl) Go.Proofs.Tryz.ntmps117 rfl (by simp) fun h => ?_
  refine AW_x [] [] ?_
  refine brD (fun hc1 => ?_) (fun hc1 => ?_)
  · skip
    refine ⟨(.lit (.int .i64 (IntKind.wrap .i64 c))), PO_convInt rfl un5 un3 rfl, ?_⟩
    exact AW_ret (ret_le2 (.inl rfl) rfl (by rw [headF, if_pos hc1]) (.refl _))
  · skip
    refine ⟨_, fun hg12 => rfl, fun hc3 => ?_, fun hc3 => ?_⟩
    · skip
      refine ⟨(andI .u8 c 31), ⟨rfl, rfl, trivial⟩, (.lit (.int .i64 (IntKind.wrap .i64 (andI .u8 c 31)))), PO_convInt rfl un5 un3 rfl, ?_⟩
      exact AW_ret (ret_le2 (.inl rfl) rfl (by rw [headF, if_neg hc1, if_pos hc3]) (.refl _))
    · skip
      refine ⟨_, fun hg22 => rfl, fun hc5 => ?_, fun hc5 => ?_⟩
      · skip
        refine ⟨(andI .u8 c 15), ⟨rfl, rfl, trivial⟩, (.lit (.int .i64 (IntKind.wrap .i64 (andI .u8 c 15)))), PO_convInt rfl un5 un3 rfl, ?_⟩
        exact AW_ret (ret_le2 (.inl rfl) rfl (by rw [headF, if_neg hc1, if_neg (by rw [hc3]; simp), if_pos hc5]) (.refl _))
      · skip
        refine ⟨_, fun hg32 => rfl, fun hc7 => ?_, fun hc7 => ?_⟩
        · skip
          refine ⟨(andI .u8 c 7), ⟨rfl, rfl, trivial⟩, (.lit (.int .i64 (IntKind.wrap .i64 (andI .u8 c 7)))), PO_convInt rfl un5 un3 rfl, ?_⟩
          exact AW_ret (ret_le2 (.inl rfl) rfl (by rw [headF, if_neg hc1, if_neg (by rw [hc3]; simp), if_neg (by rw [hc5]; simp), if_pos hc7]) (.refl _))
        · skip
          exact AW_ret (ret_le2 (.inl rfl) rfl (by rw [headF, if_neg hc1, if_neg (by rw [hc3]; simp), if_neg (by rw [hc5]; simp), if_neg (by rw [hc7]; simp)]) (.refl _))
def moreF (s : ByteArray) : Int := if s ≠ ⟨#[]⟩ then (headF ((head8 (bys s)).toNat : Int)).2 else -1
def firstF (s : ByteArray) : Int := if s ≠ ⟨#[]⟩ then (headF ((head8 (bys s)).toNat : Int)).1 else 0
abbrev contF (s : ByteArray) (i : Nat) : Int := ((((bys s).getD (i + 1) 0) : UInt8).toNat : Int)
def tailF (s : ByteArray) : Nat → Nat → Int → Option Int
  | 0, _, r => some r
  | k + 1, i, r => if andI .u8 (contF s i) 192 ≠ 128 then none else tailF s k (i + 1) (orI .i64 (shlI .i64 r 6) (IntKind.wrap .i64 (andI .u8 (contF s i) 63)))
def ugetF (s : ByteArray) : Int × Int × Int :=
  if (decide (moreF s < 0) || decide ((s.size : Int) ≤ moreF s)) = true then (0, 0, 4) else
  match tailF s (moreF s).toNat 0 (firstF s) with
  | none => (0, 0, 4)
  | some r => if (mayF r && decide (sizeF r = moreF s + 1)) = true then (r, moreF s + 1, 0) else (0, 0, 4)
theorem bne_size {s : ByteArray} (h : s ≠ ⟨#[]⟩) : 0 < (bys s).length := by
  rcases Nat.eq_zero_or_pos (bys s).length with e | e
  · exact absurd (bytes_inj (b := ⟨#[]⟩) (List.eq_nil_of_length_eq_zero e)) h
  · exact e
theorem headF_le (c : Int) : (headF c).2 ≤ 3 := by
  unfold headF; repeat' split
  all_goals simp
theorem moreF_le (s : ByteArray) : moreF s ≤ 3 := by
  unfold moreF; split
  · exact headF_le _
  · decide
theorem ugetF_bad {s : ByteArray} (h : (decide (moreF s < 0) || decide ((s.size : Int) ≤ moreF s)) = true) : ugetF s = (0, 0, 4) := by rw [ugetF, if_pos h]
theorem ugetF_go {s : ByteArray} (h : ¬ (decide (moreF s < 0) || decide ((s.size : Int) ≤ moreF s)) = true) : ugetF s = match tailF s (moreF s).toNat 0 (firstF s) with
  | none => (0, 0, 4)
  | some r => if (mayF r && decide (sizeF r = moreF s + 1)) = true then (r, moreF s + 1, 0) else (0, 0, 4) := by rw [ugetF, if_neg h]
theorem cont_get {s : ByteArray} {i : Nat} (h : i + 1 < s.size) : s[((i + 1 : Nat) : Int).toNat]? = some ((bys s).getD (i + 1) 0) :=
  bget (by rw [List.getD_eq_getElem?_getD, List.getElem?_eq_getElem (by rw [bsize]; omega)]; rfl)
theorem uget_ (s : ByteArray) (hs : s.size ≤ 1048576) : PFn PR (.fn (.func 114) [] []) [.lit (.string s)] (.tup [.lit (.int .i64 ((ugetF s).1)), .lit (.int .i64 ((ugetF s).2.1)), .lit (.int .i64 ((ugetF s).2.2))]) := by
  have hsz := bsize s
  refine PFn_of Go.Proofs.Tryz.func114 rfl (by rfl) Go.Proofs.Tryz.ntmps114 rfl (by simp) fun h => ?_
  refine AW_x [] [] ?_
  refine AW_scope (l := 0) (fun σ => ∃ _ : Unit, ugetF s = (0, 0, 4) ∧ At σ 56 [] h [] h) rfl ?_ ?_
  · skip
    refine AW_x [(2, 0)] [(3, 6), (3, 7)] ?_
    refine AW_join (α := Unit) (fun _ => [(5, .lit (.int .i64 (firstF s))), (6, .lit (.int .i64 (moreF s))), (0, .lit (.string s)), (2, .lit (.int .i64 0)), (3, .lit (.int .i64 0)), (4, .lit (.int .i64 0))]) (fun _ => h) (fun _ => True) ?_ ?_
    · skip
      refine AW_x [] [(3, 6), (3, 7)] ?_
      refine brD (fun hc2 => ?_) (fun hc2 => ?_)
      · skip
        have hb := bne_size hc2
        refine ⟨_, ⟨un9, (by first | decide | omega), (bget (i := 0) (head8_get hb))⟩, _, (head_ _), (.lit (.int .i64 (firstF s))), PO_eqI (PO_assign rfl rfl) (by rw [firstF, if_pos hc2]), (.lit (.int .i64 (moreF s))), PO_eqI (PO_assign rfl rfl) (by rw [moreF, if_pos hc2]), ?_⟩
        exact ⟨(), trivial, ⟨rfl, ⟨rfl, rfl, rfl, rfl, rfl, rfl, trivial⟩, rfl, rfl, rfl⟩⟩
      · skip
        exact ⟨(), trivial, ⟨rfl, ⟨by rw [firstF, if_neg hc2]; rfl, by rw [moreF, if_neg hc2]; rfl, rfl, rfl, rfl, rfl, trivial⟩, rfl, rfl, rfl⟩⟩
    · rintro _ -
      refine AW_x [] [] ?_
      refine ⟨_, fun hg18 => ⟨un9, rfl⟩, fun hc4 => ?_, fun hc4 => ?_⟩
      · skip
        exact ⟨(), ugetF_bad hc4, ⟨rfl, trivial, rfl, rfl, rfl⟩⟩
      · skip
        have hgo := ugetF_go (s := s) (by rw [hc4]; simp)
        have hd4 := hc4
        simp only [Bool.or_eq_false_iff, decide_eq_false_iff_not] at hd4
        have hm3 := moreF_le s
        refine AW_it [] [] [(6, _), (0, _), (2, _), (3, _), (4, _), (24, _)] (fun (z_ : Nat × Int) => match z_ with | (i, r) => [(25, .lit (.int .i64 ((i : Nat) : Int))), (5, .lit (.int .i64 r))]) (fun (z_ : Nat × Int) => match z_ with | (i, r) => h) (fun (z_ : Nat × Int) => match z_ with | (i, r) => (i : Int) ≤ moreF s ∧ tailF s (moreF s).toNat 0 (firstF s) = tailF s ((moreF s).toNat - i) i r) (fun (z_ : Nat × Int) => match z_ with | (i, r) => (moreF s).toNat - i) ((0, firstF s)) ⟨rfl, rfl, rfl, rfl, rfl, rfl, trivial⟩ ⟨rfl, rfl, trivial⟩ rfl (⟨by omega, rfl⟩) ?_
        rintro ⟨i, r⟩ ⟨hIi, hT⟩
        refine brD (fun hc6 => ?_) (fun hc6 => ?_)
        · skip
          obtain ⟨kk, hk⟩ : ∃ kk, (moreF s).toNat - i = kk + 1 := ⟨(moreF s).toNat - i - 1, by omega⟩
          rw [hk, tailF] at hT
          refine ⟨_, f1 (by first | omega | (simp_all <;> omega)), _, ⟨un9, (by first | decide | omega), (cont_get (by omega))⟩, (andI .u8 (((bys s).getD (i + 1) 0 : UInt8).toNat : Int) 192), ⟨rfl, rfl, trivial⟩, brD (fun hc8 => ?_) (fun hc8 => ?_)⟩
          · skip
            rw [if_pos hc8] at hT
            exact ⟨(), (by rw [hgo, hT]), ⟨rfl, trivial, rfl, rfl, rfl⟩⟩
          · skip
            rw [if_neg hc8] at hT
            refine ⟨(shlI .i64 r 6), ⟨rfl, (by first | decide | omega)⟩, _, f1 (by first | omega | (simp_all <;> omega)), _, ⟨un9, (by first | decide | omega), (cont_get (by omega))⟩, (andI .u8 (((bys s).getD (i + 1) 0 : UInt8).toNat : Int) 63), ⟨rfl, rfl, trivial⟩, (.lit (.int .i64 (IntKind.wrap .i64 (andI .u8 (((bys s).getD (i + 1) 0 : UInt8).toNat : Int) 63)))), PO_convInt rfl un5 un3 rfl, (orI .i64 (shlI .i64 r 6) (IntKind.wrap .i64 (andI .u8 (((bys s).getD (i + 1) 0 : UInt8).toNat : Int) 63))), ⟨rfl, rfl, trivial⟩, _, f1 (by first | omega | (simp_all <;> omega)), ?_⟩
            exact ⟨(i + 1, _), ⟨by omega, by rw [show (moreF s).toNat - (i + 1) = kk by omega]; exact hT⟩, by simp only []; omega, ⟨rfl, ⟨rfl, rfl, rfl, rfl, rfl, rfl, rfl, rfl, trivial⟩, rfl, rfl, rfl⟩⟩
        · skip
          rw [show (moreF s).toNat - i = 0 by omega, tailF] at hT
          rw [hT] at hgo
          simp only [] at hgo
          refine ⟨_, (may117_ _), _, fun hg46 => ⟨_, (size_ _), ((moreF s) + 1), fz rfl trivial (i64w (by omega) (by omega)), rfl⟩, fun hc11 => ?_, fun hc11 => ?_⟩
          · skip
            rw [if_pos hc11] at hgo
            refine ⟨((moreF s) + 1), fz rfl trivial (i64w (by omega) (by omega)), ?_⟩
            exact AW_ret (ret_le2 (.inl rfl) rfl (by rw [hgo]) (.refl _))
          · skip
            rw [if_neg (by rw [hc11]; simp)] at hgo
            exact AW_ret (ret_le2 (.inl rfl) rfl (by rw [hgo]) (.refl _))
  · rintro σ ⟨_, hbad, hat⟩
    refine AW_at hat ?_
    refine AW_x [] [] ?_
    exact AW_ret (ret_le2 (.inl rfl) rfl (by rw [hbad]) (.refl _))
theorem urunes_ (s : ByteArray) : PFn PR (.fn (.func 105) [] []) [.lit (.string s)] (.fn (.func 113) [] [.ip [.lit (.string s)]]) := by
  refine PFn_of Go.Proofs.Tryz.func105 rfl (by rfl) Go.Proofs.Tryz.ntmps105 rfl (by simp) fun h => ?_
  refine AW_x [] [] ?_
  refine ⟨rfl, (.fn (.func 113) [] [.ip [.lit (.string s)]]), PO_makeFunc rfl rfl rfl, ?_⟩
  exact AW_ret (ret_le2 (.inl rfl) rfl rfl (.refl _))
theorem len_done {α : Type} {xs : List α} {i : Nat} (hi : i ≤ xs.length) (h : xs.drop i = []) : xs.length = i := by
  have := congrArg List.length h; simp at this; omega
theorem ugetF_ok {s : ByteArray} (h : (ugetF s).2.2 = 0) : 1 ≤ (ugetF s).2.1 ∧ (ugetF s).2.1 ≤ (s.size : Int) := by
  unfold ugetF at h ⊢
  split at h
  · simp at h
  · rename_i hc
    simp only [Bool.not_eq_true, Bool.or_eq_false_iff, decide_eq_false_iff_not] at hc
    rw [if_neg (by simp [hc.1, hc.2])]
    split at h
    · simp at h
    · rename_i r hr
      split at h
      · rename_i h2; rw [if_pos h2]; simp only []; omega
      · simp at h
def urunes (s : ByteArray) (k : Nat) : List (Nat × Int) :=
  if _h : k < s.size then
    if _h0 : (ugetF (s.extract k s.size)).2.2 = 0 then
      (k, (ugetF (s.extract k s.size)).1) :: urunes s (k + (ugetF (s.extract k s.size)).2.1.toNat)
    else []
  else []
termination_by s.size - k
decreasing_by
  have := (ugetF_ok _h0).1
  omega
def encR (p : Nat × Int) : List AV := [.lit (.int .i64 (p.1 : Nat)), .lit (.int .i64 p.2)]
theorem urunes_end {s : ByteArray} {k : Nat} (h : ¬ k < s.size) : urunes s k = [] := by rw [urunes, dif_neg h]
theorem urunes_bad {s : ByteArray} {k : Nat} (h0 : ¬ (ugetF (s.extract k s.size)).2.2 = 0) : urunes s k = [] := by
  rw [urunes]; split <;> simp [h0]
theorem urunes_step {s : ByteArray} {k : Nat} (h : k < s.size) (h0 : (ugetF (s.extract k s.size)).2.2 = 0) : urunes s k = (k, (ugetF (s.extract k s.size)).1) :: urunes s (k + (ugetF (s.extract k s.size)).2.1.toNat) := by
  rw [urunes, dif_pos h, dif_pos h0]
theorem riter_ (s : ByteArray) (hs : s.size ≤ 1048576) : AIter PR (.fn (.func 113) [] [.ip [.lit (.string s)]]) ((urunes s 0).map encR) := by
  intro y J Jx hy hmono h hJ0
  generalize hxs : (urunes s 0).map encR = xs at hy ⊢
  refine AFn_of Go.Proofs.Tryz.func113 rfl (by rfl) (by rw [Go.Proofs.Tryz.ntmps113]; simp) ?_
  rw [Go.Proofs.Tryz.ntmps113]
  refine AW_x [] [] ?_
  refine AW_it [(3, 4), (3, 7)] [(4, 2)] [(0, _), (1, _)] (fun (z_ : Nat × Nat × Heap) => match z_ with | (k, i, hp) => [(3, .lit (.int .i64 ((k : Nat) : Int)))]) (fun (z_ : Nat × Nat × Heap) => match z_ with | (k, i, hp) => hp) (fun (z_ : Nat × Nat × Heap) => match z_ with | (k, i, hp) => k ≤ s.size ∧ i ≤ xs.length ∧ J i hp ∧ xs.drop i = (urunes s k).map encR) (fun (z_ : Nat × Nat × Heap) => match z_ with | (k, i, hp) => s.size - k) ((0, 0, h)) ⟨rfl, rfl, trivial⟩ ⟨rfl, trivial⟩ rfl (⟨by omega, by omega, hJ0, hxs.symm⟩) ?_
  rintro ⟨k, i, hp⟩ ⟨hk, hi, hJi, hX⟩
  refine ⟨T9, un9, brD (fun hc1 => ?_) (fun hc1 => ?_)⟩
  · skip
    have hk1 : k < s.size := by omega
    have hex : (s.extract k s.size).size = s.size - k := by rw [ByteArray.size_extract]; omega
    refine ⟨T9, (.lit (.string (s.extract k s.size))), PO_slice_str (l := ((k : Nat) : Int)) (h := (s.size : Int)) rfl un9 rfl rfl rfl (by omega) (by omega) (by omega), _, (uget_ _ (by first | assumption | omega)), ?_⟩
    refine AL_split 21 (decide (((ugetF (s.extract k s.size)).2.2 : Int) ≠ 0)) rfl (fun hg21 => ?_) (fun hg21 => ?_)
    · skip
      rw [urunes_bad (by simpa using hg21)] at hX
      refine AL_s0 rfl rfl rfl rfl rfl rfl rfl ?_
      refine AL_s0 rfl rfl rfl rfl rfl rfl rfl ?_
      refine AL_s0 rfl rfl rfl rfl rfl rfl rfl ?_
      refine AL_s0 rfl rfl rfl rfl rfl rfl rfl ?_
      refine AL_s0 rfl rfl rfl rfl rfl rfl rfl ?_
      refine AL_p rfl rfl rfl (v := .lit (.bool true)) (PO_pick rfl rfl rfl) ?_
      refine AL_nil ?_
      refine ⟨fun _ => ?_, nofun⟩
      refine AW_ret ?_
      exact ret_R (.inl rfl) rfl ⟨rfl, .inl (by rw [len_done hi hX]; exact hJi)⟩
    · skip
      have h00 : (ugetF (s.extract k s.size)).2.2 = 0 := by simpa using hg21
      have hok := ugetF_ok h00
      rw [hex] at hok
      rw [urunes_step hk1 h00, List.map_cons] at hX
      have hxi : xs[i]? = some (encR (k, (ugetF (s.extract k s.size)).1)) := by rw [← List.head?_drop, hX]; rfl
      have hil : i < xs.length := (List.getElem?_eq_some_iff.1 hxi).1
      have hX2 : xs.drop (i + 1) = (urunes s (k + (ugetF (s.extract k s.size)).2.1.toNat)).map encR := by rw [← List.tail_drop, hX]; rfl
      refine AL_pg rfl rfl rfl rfl rfl rfl (v := y) (PO_move rfl rfl) ?_
      refine AL_pg rfl rfl rfl rfl rfl rfl (v := .lit (.int .i64 ((k : Nat) : Int))) (PO_move rfl rfl) ?_
      refine AL_pg rfl rfl rfl rfl rfl rfl (v := .lit (.int .i64 ((ugetF (s.extract k s.size)).1))) (PO_move rfl rfl) ?_
      refine AL_mg rfl rfl rfl rfl rfl rfl (MO_call rfl rfl rfl (hy i _ hp hxi hJi)) ?_
      rintro _ h1 (⟨rfl, hJ1⟩ | ⟨rfl, hJ1⟩)
      · skip
        refine AL_pg rfl rfl rfl rfl rfl rfl (v := .lit (.bool false)) (PO_not (b := true) rfl rfl) ?_
        refine AL_p rfl rfl rfl (v := .lit (.bool false)) (PO_pick rfl rfl rfl) ?_
        refine AL_nil ?_
        refine ⟨nofun, fun _ => ?_⟩
        refine ⟨(.lit (.int .i64 ((k + (ugetF (s.extract k s.size)).2.1.toNat : Nat) : Int))), PO_fit rfl rfl rfl rfl trivial (by rw [i64w (by omega) (by omega)]; omega), ?_⟩
        exact ⟨(k + (ugetF (s.extract k s.size)).2.1.toNat, i + 1, h1), ⟨by omega, by omega, hJ1, hX2⟩, by simp only []; omega, ⟨rfl, ⟨rfl, rfl, rfl, trivial⟩, rfl, rfl, rfl⟩⟩
      · skip
        refine AL_pg rfl rfl rfl rfl rfl rfl (v := .lit (.bool true)) (PO_not (b := false) rfl rfl) ?_
        refine AL_p rfl rfl rfl (v := .lit (.bool true)) (PO_pick rfl rfl rfl) ?_
        refine AL_nil ?_
        refine ⟨fun _ => ?_, nofun⟩
        refine AW_ret ?_
        exact ret_R (.inl rfl) rfl ⟨rfl, .inr ⟨i + 1, by omega, hJ1⟩⟩
  · skip
    rw [urunes_end (by omega)] at hX
    exact ret_R (.inr rfl) rfl ⟨rfl, .inl (by rw [len_done hi hX]; exact hJi)⟩
end Go.AM.Tryd
end
section
set_option maxRecDepth 100000
set_option maxHeartbeats 4000000
set_option linter.unusedVariables false
set_option linter.unusedSimpArgs false
namespace Go.AM.Tryd
open Go Go.AM Go.AM.D
def endN (l : List (Nat × Int)) : Nat → Int
  | 0 => 0
  | i + 1 => match l[i]? with
    | some p => (p.1 : Int) + sizeF p.2
    | none => 0
def validU (s : ByteArray) : Bool := decide (endN (urunes s 0) (urunes s 0).length = (s.size : Int))
theorem sizeF_le (r : Int) : 1 ≤ sizeF r ∧ sizeF r ≤ 4 := by
  unfold sizeF; split; omega; split; omega; split <;> omega
theorem urunes_lt {s : ByteArray} {p : Nat × Int} : ∀ (n k : Nat), s.size - k ≤ n → p ∈ urunes s k → p.1 < s.size := by
  intro n
  induction n with
  | zero => intro k hk hp; rw [urunes_end (by omega)] at hp; cases hp
  | succ n ih =>
    intro k hk hp
    by_cases hks : k < s.size
    · by_cases h0 : (ugetF (s.extract k s.size)).2.2 = 0
      · rw [urunes_step hks h0] at hp
        rcases List.mem_cons.1 hp with rfl | hp
        · exact hks
        · have := (ugetF_ok h0).1
          exact ih _ (by omega) hp
      · rw [urunes_bad h0] at hp; cases hp
    · rw [urunes_end hks] at hp; cases hp
def pOf (s : ByteArray) (i : Nat) : Nat × Int := (urunes s 0).getD i (0, 0)
theorem pOf_get {s : ByteArray} {i : Nat} {p : Nat × Int} (h : (urunes s 0)[i]? = some p) : pOf s i = p := by rw [pOf, List.getD_eq_getElem?_getD, h]; rfl
theorem pOf_mem {s : ByteArray} {i : Nat} {x : List AV} (h : ((urunes s 0).map encR)[i]? = some x) : (urunes s 0)[i]? = some (pOf s i) ∧ x = encR (pOf s i) ∧ (pOf s i).1 < s.size := by
  rw [List.getElem?_map] at h
  cases hq : (urunes s 0)[i]? with
  | none => rw [hq] at h; cases h
  | some p =>
    rw [hq] at h
    rw [pOf_get hq]
    exact ⟨rfl, (Option.some.inj h).symm, urunes_lt _ 0 (Nat.le_refl _) (List.mem_of_getElem? hq)⟩
theorem uvalid_ (s : ByteArray) (hs : s.size ≤ 1048576) : PFn PR (.fn (.func 104) [] []) [.lit (.string s)] (.lit (.bool (validU s))) := by
  refine PFn_ofG Go.Proofs.Tryz.func104 rfl (by rfl) Go.Proofs.Tryz.ntmps104 rfl (by simp) fun h => ?_
  refine AW_x [] [(6, 0)] ?_
  refine AL_alloc rfl rfl rfl rfl z3 fun b hb => ?_
  refine AL_store (b := b) (off := 0) (cs := zs3) (v := .lit (.int .i64 0)) rfl rfl rfl ty3 rfl rfl (Heap.upd_same _ _ _) rfl rfl (by simp) ?_
  have hle0 : h.le ((h.upd b (some (.row zs3))).upd b (some (.row (setCells zs3 0 (acells (.lit (.int .i64 0))))))) := Heap.le_upd (Heap.le_upd (.refl h) hb _) hb _
  have hrow0 : ((h.upd b (some (.row zs3))).upd b (some (.row (setCells zs3 0 (acells (.lit (.int .i64 0))))))) b = (some (.row [.lit (.int .i64 (endN (urunes s 0) 0))])) := by rw [Heap.upd_same]; rfl
  refine AL_nil ?_
  refine ⟨_, (urunes_ _), ?_⟩
  refine AW_rangeF (xs := ((urunes s 0).map encR)) rfl Go.Proofs.Tryz.func113 rfl (by rfl) (riter_ s hs) (fun i hp => h.le hp ∧ hp b = (some (.row [.lit (.int .i64 (endN (urunes s 0) i))]))) (fun _ _ _ => False) (fun i tm => True ∧ Looks tm [(4, .lit (.int .i64 (((pOf s i).1 : Nat) : Int))), (5, .lit (.int .i64 ((pOf s i).2))), (2, .lit (.bool false)), (3, .ptr b 0)]) rfl (by intro x hx; simp only [List.mem_map] at hx; obtain ⟨p, -, rfl⟩ := hx; rfl) ⟨hle0, hrow0⟩ ?_ ?_ ?_ ?_ ?_ ?_
  · skip
    intro l_ hl i h1 h2 hJ hst
    exact ⟨Steady.le (Heap.none_of hle0 hl) hJ.1 hst, hst.at hJ.2 rfl⟩
  · skip
    intro l_ hl e i h1 h2 hJ hst
    exact hJ
  · intro l_ i x hr hx hJ
    obtain ⟨hp, rfl, hlt⟩ := pOf_mem hx
    refine AW_keep [(8, .lit (.int .i64 (((pOf s i).1 : Nat) : Int))), (9, .lit (.int .i64 ((pOf s i).2))), (0, .lit (.string s)), (2, .lit (.bool false)), (3, .ptr b 0), (7, .fn (.func 113) [] [.ip [.lit (.string s)]])] ⟨rfl, rfl, rfl, rfl, rfl, rfl, trivial⟩ ?_
    refine AW_x [] [] ?_
    exact ⟨rfl, rfl, rfl, .refl _, hJ, trivial, ⟨rfl, rfl, rfl, rfl, trivial⟩⟩
  · intro l_ i x hr tm hx hJ hA
    obtain ⟨hA, hL⟩ := hA
    refine AW_ghost (Looks.sub hL).ghost ?_
    clear hL
    obtain ⟨hle, hrow⟩ := hJ
    obtain ⟨hp, -, hlt⟩ := pOf_mem hx
    have hsz4 := sizeF_le (pOf s i).2
    refine AW_x [] [] ?_
    refine ⟨_, (size_ _), ((((pOf s i).1 : Nat) : Int) + (sizeF ((pOf s i).2))), fz rfl trivial (i64w (by omega) (by omega)), ?_⟩
    refine AL_store (b := b) (off := 0) (cs := [.lit (.int .i64 (endN (urunes s 0) i))]) (v := .lit (.int .i64 ((((pOf s i).1 : Nat) : Int) + sizeF (pOf s i).2))) rfl rfl rfl ty3 rfl rfl hrow rfl rfl (by simp) ?_
    refine AL_nil ?_
    exact ⟨⟨Heap.le_upd hle hb _, (Heap.upd_same _ _ _).trans (by rw [endN, hp]; rfl)⟩, rfl⟩
  · intro hd r_ hr0 hmark hJ
    obtain ⟨hle, hrow⟩ := hJ
    rw [List.length_map] at hrow
    have hrn : h r_ = none := Heap.none_of hle0 hr0
    refine ⟨(.lit (.int .i64 (endN (urunes s 0) (urunes s 0).length))), PO_load_row (b := b) (off := 0) (cs := [.lit (.int .i64 (endN (urunes s 0) (urunes s 0).length))]) rfl ty3 rfl hrow rfl, un9, ?_⟩
    exact AW_ret (ret_G (.inl rfl) (Results.of_ares rfl) rfl hle (by simpa using hrn))
  · intro e i hd r_ hr0 hmark hc hJx
    exact hJx.elim
end Go.AM.Tryd
end
section
set_option maxRecDepth 100000
set_option maxHeartbeats 4000000
set_option linter.unusedVariables false
set_option linter.unusedSimpArgs false
namespace Go.AM.Tryd
open Go Go.AM Go.AM.D
def ixB (s : ByteArray) (c : Int) : Int := Lib.indexByte s.data.toList c.toNat.toUInt8
theorem ib118_ (s : ByteArray) (c : Int) : PFn PR (.fn (.func 119) [] []) [.lit (.string s), .lit (.int .u8 c)] (.lit (.int .i64 (ixB s c))) :=
  PFn_extern (us := [.string s, .int .u8 c]) Go.Proofs.Tryz.func119 (by rfl) rfl (by kernel_rfl) (by rfl) (fun w => Lib.run_indexByteString s c w) rfl
theorem ib114_ (s : ByteArray) (c : Int) : PFn PR (.fn (.func 115) [] []) [.lit (.string s), .lit (.int .u8 c)] (.lit (.int .i64 (ixB s c))) := by
  refine PFn_of Go.Proofs.Tryz.func115 rfl (by rfl) Go.Proofs.Tryz.ntmps115 rfl (by simp) fun h => ?_
  refine AW_x [] [] ?_
  refine ⟨_, (ib118_ _ _), ?_⟩
  exact AW_ret (ret_le2 (.inl rfl) rfl rfl (.refl _))
theorem ib107_ (s : ByteArray) (c : Int) : PFn PR (.fn (.func 106) [] []) [.lit (.string s), .lit (.int .u8 c)] (.lit (.int .i64 (ixB s c))) := by
  refine PFn_of Go.Proofs.Tryz.func106 rfl (by rfl) Go.Proofs.Tryz.ntmps106 rfl (by simp) fun h => ?_
  refine AW_x [] [] ?_
  refine ⟨_, (ib114_ _ _), ?_⟩
  exact AW_ret (ret_le2 (.inl rfl) rfl rfl (.refl _))
def blankB (i : Int) (c : Int) : Bool := !letterF c && (decide (i = 0) || !digitF c)
def blankL : Int → List UInt8 → Bool
  | _, [] => true
  | i, x :: l => if blankB i ((x : UInt8).toNat : Int) = true then false else blankL (i + 1) l
def blankF (s : ByteArray) : Bool := blankL 0 (bys s) && (decide ((s.size : Int) ≥ 1) && decide ((s.size : Int) ≤ 64))
def valU (s : ByteArray) : Bool := decide ((s.size : Int) ≤ 4000) && validU s
theorem blank_ (s : ByteArray) (hs : s.size ≤ 1048576) : PFn PR (.fn (.func 97) [] []) [.lit (.string s)] (.lit (.bool (blankF s))) := by
  have hsz := bsize s
  refine PFn_of Go.Proofs.Tryz.func97 rfl (by rfl) Go.Proofs.Tryz.ntmps97 rfl (by simp) fun h => ?_
  refine AW_x [] [] ?_
  refine ⟨un9, ?_⟩
  refine AW_it [] [] [(0, _), (2, _), (5, _)] (fun (i : Nat) => [(6, .lit (.int .i64 ((i : Nat) : Int)))]) (fun (i : Nat) => h) (fun (i : Nat) => i ≤ (bys s).length ∧ blankL 0 (bys s) = blankL ((i : Nat) : Int) ((bys s).drop i)) (fun (i : Nat) => (bys s).length - i) (0) ⟨rfl, rfl, rfl, trivial⟩ ⟨rfl, trivial⟩ rfl (⟨by omega, rfl⟩) ?_
  rintro i ⟨hIi, hSi⟩
  refine brD (fun hc0 => ?_) (fun hc0 => ?_)
  · skip
    obtain ⟨x, hrx, hdx, hmx⟩ := drop_at (l := (bys s)) (i := i) (by omega)
    rw [hdx, blankL] at hSi
    refine ⟨_, ⟨un9, (by first | decide | omega), (bget hrx)⟩, _, (letter108_ _), _, fun hg14 => ⟨_, fun hg17 => ⟨_, ⟨un9, (by first | decide | omega), (bget hrx)⟩, _, (digit109_ _), rfl⟩, rfl⟩, fun hc4 => ?_, fun hc4 => ?_⟩
    · skip
      rw [blankB, if_pos hc4] at hSi
      exact AW_ret (ret_le2 (.inl rfl) rfl (by rw [blankF, hSi] <;> rfl) (.refl _))
    · skip
      rw [blankB, if_neg (by rw [hc4]; simp)] at hSi
      refine ⟨_, f1 (by first | omega | (simp_all <;> omega)), ?_⟩
      exact ⟨i + 1, ⟨by omega, hSi⟩, by omega, ⟨rfl, ⟨rfl, rfl, rfl, rfl, trivial⟩, rfl, rfl, rfl⟩⟩
  · skip
    rw [drop_end (l := (bys s)) (i := i) (by omega), blankL] at hSi
    refine ⟨un9, _, fun hg29 => ⟨un9, rfl⟩, ?_⟩
    exact AW_ret (ret_le2 (.inl rfl) rfl (by rw [blankF, hSi] <;> rfl) (.refl _))
theorem value_ (s : ByteArray) (hs : s.size ≤ 1048576) : PFn PR (.fn (.func 99) [] []) [.lit (.string s)] (.lit (.bool (valU s))) := by
  refine PFn_of Go.Proofs.Tryz.func99 rfl (by rfl) Go.Proofs.Tryz.ntmps99 rfl (by simp) fun h => ?_
  refine AW_x [] [] ?_
  refine ⟨un9, _, fun hg6 => ⟨_, (uvalid_ _ (by first | assumption | omega)), rfl⟩, ?_⟩
  exact AW_ret (ret_le2 (.inl rfl) rfl rfl (.refl _))
def badR (r : Int) : Bool := decide (r ≤ 32) || (decide (r < 128) && decide (ixB ⟨#[60, 62, 34, 123, 125, 124, 94, 96, 92]⟩ (IntKind.wrap .u8 r) ≥ 0))
def iriUL : List (Nat × Int) → Bool
  | [] => true
  | p :: l => if badR p.2 = true then false else iriUL l
def iriU (s : ByteArray) : Bool := if ((decide ((s.size : Int) < 1) || decide ((s.size : Int) > 1000)) || !validU s) = true then false else iriUL (urunes s 0)
theorem iriUL_at {l : List (Nat × Int)} {i : Nat} {p : Nat × Int} (h : l[i]? = some p) : iriUL (l.drop i) = if badR p.2 = true then false else iriUL (l.drop (i + 1)) := by
  obtain ⟨hi, rfl⟩ := List.getElem?_eq_some_iff.1 h
  rw [List.drop_eq_getElem_cons hi]; rfl
theorem iri95_ (s : ByteArray) (hs : s.size ≤ 1048576) : PFn PR (.fn (.func 95) [] []) [.lit (.string s)] (.lit (.bool (iriU s))) := by
  refine PFn_ofG Go.Proofs.Tryz.func95 rfl (by rfl) Go.Proofs.Tryz.ntmps95 rfl (by simp) fun h => ?_
  refine AW_x [] [] ?_
  refine AL_alloc rfl rfl rfl rfl z4 fun b hb => ?_
  have hle0 : h.le (h.upd b (some (.row zs4))) := Heap.le_upd (.refl h) hb _
  have hrow0 : (h.upd b (some (.row zs4))) b = (some (.row [.lit (.bool false)])) := by rw [Heap.upd_same]
  refine AL_nil ?_
  refine ⟨un9, _, fun hg8 => ⟨un9, rfl⟩, _, fun hg13 => ⟨_, (uvalid_ _ (by first | assumption | omega)), rfl⟩, fun hc1 => ?_, fun hc1 => ?_⟩
  · skip
    have hw : iriU s = false := by rw [iriU, if_pos hc1]
    refine AL_store (b := b) (off := 0) (cs := [.lit (.bool false)]) (v := .lit (.bool false)) rfl rfl rfl ty4 rfl rfl hrow0 rfl rfl (by simp) ?_
    refine AL_nil ?_
    refine AW_ret ?_
    exact ret_G (.inl rfl) (Results.cell rfl ty4 rfl (Heap.upd_same _ _ _) rfl) (by rw [hw]) (Heap.le_upd hle0 hb _) (by simp)
  · skip
    have hw : iriU s = iriUL (urunes s 0) := by rw [iriU, if_neg (by rw [hc1]; simp)]
    refine ⟨_, (urunes_ _), ?_⟩
    refine AW_rangeF (xs := ((urunes s 0).map encR)) rfl Go.Proofs.Tryz.func113 rfl (by rfl) (riter_ s hs) (fun i hp => h.le hp ∧ hp b = (some (.row [.lit (.bool false)])) ∧ iriUL (urunes s 0) = iriUL ((urunes s 0).drop i)) (fun e i hp => e = .ret ∧ h.le hp ∧ hp b = (some (.row [.lit (.bool false)])) ∧ iriUL (urunes s 0) = false) (fun i tm => True ∧ Looks tm [(4, .lit (.int .i64 ((pOf s i).2))), (2, .ptr b 0)]) rfl (by intro x hx; simp only [List.mem_map] at hx; obtain ⟨p, -, rfl⟩ := hx; rfl) ⟨hle0, hrow0, rfl⟩ ?_ ?_ ?_ ?_ ?_ ?_
    · skip
      intro l_ hl i h1 h2 hJ hst
      exact ⟨Steady.le (Heap.none_of hle0 hl) hJ.1 hst, hst.at hJ.2.1 rfl, hJ.2.2⟩
    · skip
      intro l_ hl e i h1 h2 hJ hst
      exact ⟨hJ.1, Steady.le (Heap.none_of hle0 hl) hJ.2.1 hst, hst.at hJ.2.2.1 rfl, hJ.2.2.2⟩
    · intro l_ i x hr hx hJ
      obtain ⟨hp, rfl, hlt⟩ := pOf_mem hx
      refine AW_keep [(20, .lit (.int .i64 (((pOf s i).1 : Nat) : Int))), (21, .lit (.int .i64 ((pOf s i).2))), (0, .lit (.string s)), (2, .ptr b 0), (17, .lit (.bool (((decide (((s.size : Int) : Int) < 1)) || (decide (((s.size : Int) : Int) > 1000))) || (!(validU s))))), (19, .fn (.func 113) [] [.ip [.lit (.string s)]])] ⟨rfl, rfl, rfl, rfl, rfl, rfl, trivial⟩ ?_
      refine AW_xr [] [] ?_
      exact ⟨rfl, rfl, rfl, .refl _, hJ, trivial, ⟨rfl, rfl, trivial⟩⟩
    · intro l_ i x hr tm hx hJ hA
      obtain ⟨hA, hL⟩ := hA
      refine AW_ghost (Looks.sub hL).ghost ?_
      clear hL
      obtain ⟨hle, hrow, hS⟩ := hJ
      obtain ⟨hp, -, hlt⟩ := pOf_mem hx
      rw [iriUL_at hp, badR] at hS
      refine AW_x [] [] ?_
      refine ⟨_, fun hg24 => ⟨_, fun hg27 => ⟨(.lit (.int .u8 (IntKind.wrap .u8 ((pOf s i).2)))), PO_convInt rfl un3 un5 rfl, _, (ib107_ _ _), rfl⟩, rfl⟩, fun hc5 => ?_, fun hc5 => ?_⟩
      · skip
        rw [if_pos hc5] at hS
        refine AL_store (b := b) (off := 0) (cs := [.lit (.bool false)]) (v := .lit (.bool false)) rfl rfl rfl ty4 rfl rfl hrow rfl rfl (by simp) ?_
        refine AL_nil ?_
        refine AW_ret ?_
        exact ⟨⟨rfl, Heap.le_upd hle hb _, (Heap.upd_same _ _ _).trans rfl, hS⟩, rfl⟩
      · skip
        rw [if_neg (by rw [hc5]; simp)] at hS
        exact ⟨⟨hle, hrow, hS⟩, rfl⟩
    · intro hd r_ hr0 hmark hJ
      obtain ⟨hle, hrow, hS⟩ := hJ
      rw [List.length_map, List.drop_of_length_le (Nat.le_refl _), iriUL] at hS
      have hrn : h r_ = none := Heap.none_of hle0 hr0
      refine AL_store (b := b) (off := 0) (cs := [.lit (.bool false)]) (v := .lit (.bool true)) rfl rfl rfl ty4 rfl rfl hrow rfl rfl (by simp) ?_
      refine AL_nil ?_
      refine AW_ret ?_
      exact ret_G (.inl rfl) (Results.cell rfl ty4 rfl (Heap.upd_same _ _ _) rfl) (by rw [hw, hS]) (Heap.le_upd hle hb _) (by simpa using hrn)
    · intro e i hd r_ hr0 hmark hc hJx
      obtain ⟨rfl, hle, hrow, hS⟩ := hJx
      have hrn : h r_ = none := Heap.none_of hle0 hr0
      exact ret_G (.inl rfl) (Results.cell rfl ty4 rfl hrow rfl) (by rw [hw, hS]) hle (by simpa using hrn)
end Go.AM.Tryd
end
section
set_option maxRecDepth 100000
set_option maxHeartbeats 4000000
set_option linter.unusedVariables false
set_option linter.unusedSimpArgs false
namespace Go.AM.Tryd
open Go Go.AM Go.AM.D
def eqL (l m : List Lt) : Bool := if (l.length : Int) ≠ (m.length : Int) then false else sameL l m
theorem eq50_ (l m : List Lt) (hl : l.length ≤ 1048576) : PFn PR (.fn (.func 47) [] []) [.sl .any 21 (l.map eLit), .sl .any 21 (m.map eLit)] (.lit (.bool (eqL l m))) := by
  refine PFn_of Go.Proofs.Tryz.func47 rfl (by rfl) Go.Proofs.Tryz.ntmps47 rfl (by simp) fun h => ?_
  refine AW_x [] [] ?_
  refine ⟨L44, _, lm, L44, _, lm, brD (fun hc1 => ?_) (fun hc1 => ?_)⟩
  · skip
    have hw : eqL l m = false := by rw [eqL, if_pos hc1]
    exact AW_ret (ret_le2 (.inl rfl) rfl (by rw [hw]) (.refl _))
  · skip
    have hw : eqL l m = sameL l m := by rw [eqL, if_neg hc1]
    have hlen : l.length = m.length := by omega
    refine ⟨L44, _, lm, ?_⟩
    refine AW_it [] [] [(0, _), (1, _), (4, _), (12, _)] (fun (i : Nat) => [(13, .lit (.int .i64 ((i : Nat) : Int)))]) (fun (i : Nat) => h) (fun (i : Nat) => i ≤ l.length ∧ sameL l m = sameL (l.drop i) (m.drop i)) (fun (i : Nat) => l.length - i) (0) ⟨rfl, rfl, rfl, rfl, trivial⟩ ⟨rfl, trivial⟩ rfl (⟨by omega, rfl⟩) ?_
    rintro i ⟨hIi, hSi⟩
    refine brD (fun hc0 => ?_) (fun hc0 => ?_)
    · skip
      obtain ⟨x, hrx, hdx, hmx⟩ := drop_at (l := l) (i := i) (by omega)
      obtain ⟨y, hry, hdy, hmy⟩ := drop_at (l := m) (i := i) (by omega)
      rw [hdx, hdy, sameL] at hSi
      refine ⟨⟨hmixed, by kernel_rfl⟩, L44, _, ⟨rfl, (by first | decide | omega), (mget hrx)⟩, T68, L44, _, ⟨rfl, (by first | decide | omega), (mget hry)⟩, T68, _, r68 x y, brD (fun hc6 => ?_) (fun hc6 => ?_)⟩
      · skip
        rw [if_pos hc6] at hSi
        exact AW_ret (ret_le2 (.inl rfl) rfl (by rw [hw, hSi]) (.refl _))
      · skip
        rw [if_neg hc6] at hSi
        refine ⟨_, f1 (by first | omega | (simp_all <;> omega)), ?_⟩
        exact ⟨i + 1, ⟨by omega, hSi⟩, by omega, ⟨rfl, ⟨rfl, rfl, rfl, rfl, rfl, trivial⟩, rfl, rfl, rfl⟩⟩
    · skip
      rw [drop_end (l := l) (i := i) (by omega), sameL] at hSi
      exact AW_ret (ret_le2 (.inl rfl) rfl (by rw [hw, hSi]) (.refl _))
def sameP (a b : Rule) : Bool := decide (a.head = b.head) && eqL a.body b.body
theorem same38_ (a b : Rule) (ha : okR a) : PFn PR (.fn (.func 32) [] []) [.agg (eRule a), .agg (eRule b)] (.lit (.bool (sameP a b))) := by
  have hal := ha.2.1
  refine PFn_of Go.Proofs.Tryz.func32 rfl (by rfl) Go.Proofs.Tryz.ntmps32 rfl (by simp) fun h => ?_
  refine AW_x [] [] ?_
  refine ⟨F46_0, T43, F46_0, T43, _, q43 a.head b.head, _, fun hg10 => ⟨F46_1, T44, F46_1, T44, _, (eq50_ _ _ (by first | assumption | omega)), rfl⟩, ?_⟩
  exact AW_ret (ret_le2 (.inl rfl) rfl rfl (.refl _))
theorem prog37_ (r o : Rule) (ho : okR o) : PFn PR (.fn (.func 31) [] [.ip (eRule r)]) [.agg (eRule o)] (.lit (.bool (sameP o r))) := by
  refine PFn_of Go.Proofs.Tryz.func31 rfl (by rfl) Go.Proofs.Tryz.ntmps31 rfl (by simp) fun h => ?_
  refine AW_x [] [] ?_
  refine ⟨T46, T46, _, (same38_ _ _ (by assumption)), ?_⟩
  exact AW_ret (ret_le2 (.inl rfl) rfl rfl (.refl _))
def idxF {α : Type} (p : α → Bool) : List α → Int → Int
  | [], _ => -1
  | x :: l, i => if p x = true then i else idxF p l (i + 1)
theorem idxF_any {α : Type} (p : α → Bool) : ∀ (l : List α) (i : Int), 0 ≤ i → decide (idxF p l i ≥ 0) = l.any p := by
  intro l
  induction l with
  | nil => intro i h; simp [idxF]
  | cons x l ih =>
    intro i h
    rw [idxF, List.any_cons]
    cases hp : p x with
    | true => simp [h]
    | false => simpa using ih (i + 1) (by omega)
theorem idx49_ (f : AV) (p : Rule → Bool) (l : List Rule) (hl : l.length ≤ 1048576) (hf : ∀ x ∈ l, PFn PR f [.agg (eRule x)] (.lit (.bool (p x)))) : PFn PR (.fn (.func 46) [] []) [.sl .any 13 (l.map eRule), f] (.lit (.int .i64 (idxF p l 0))) := by
  refine PFn_of Go.Proofs.Tryz.func46 rfl (by rfl) Go.Proofs.Tryz.ntmps46 rfl (by simp) fun h => ?_
  refine AW_x [] [] ?_
  refine ⟨L22, _, lm, ?_⟩
  refine AW_it [] [] [(0, _), (1, _), (4, _), (7, _)] (fun (i : Nat) => [(8, .lit (.int .i64 ((i : Nat) : Int)))]) (fun (i : Nat) => h) (fun (i : Nat) => i ≤ l.length ∧ idxF p l 0 = idxF p (l.drop i) i) (fun (i : Nat) => l.length - i) (0) ⟨rfl, rfl, rfl, rfl, trivial⟩ ⟨rfl, trivial⟩ rfl (⟨by omega, rfl⟩) ?_
  rintro i ⟨hIi, hSi⟩
  refine brD (fun hc0 => ?_) (fun hc0 => ?_)
  · skip
    obtain ⟨x, hrx, hdx, hmx⟩ := drop_at (l := l) (i := i) (by omega)
    rw [hdx, idxF] at hSi
    refine ⟨L22, _, ⟨rfl, (by first | decide | omega), (mget hrx)⟩, T46, _, (hf x hmx), fun hc4 => ?_, fun hc4 => ?_⟩
    · skip
      rw [if_pos hc4] at hSi
      exact AW_ret (ret_le2 (.inl rfl) rfl (by rw [hSi]) (.refl _))
    · skip
      rw [if_neg (by rw [hc4]; simp)] at hSi
      refine ⟨_, f1 (by first | omega | (simp_all <;> omega)), ?_⟩
      exact ⟨i + 1, ⟨by omega, hSi⟩, by omega, ⟨rfl, ⟨rfl, rfl, rfl, rfl, rfl, trivial⟩, rfl, rfl, rfl⟩⟩
  · skip
    rw [drop_end (l := l) (i := i) (by omega), idxF] at hSi
    exact AW_ret (ret_le2 (.inl rfl) rfl (by rw [hSi]) (.refl _))
theorem has36_ (f : AV) (p : Rule → Bool) (l : List Rule) (hl : l.length ≤ 1048576) (hf : ∀ x ∈ l, PFn PR f [.agg (eRule x)] (.lit (.bool (p x)))) : PFn PR (.fn (.func 30) [] []) [.sl .any 13 (l.map eRule), f] (.lit (.bool (l.any p))) := by
  refine PFn_of Go.Proofs.Tryz.func30 rfl (by rfl) Go.Proofs.Tryz.ntmps30 rfl (by simp) fun h => ?_
  refine AW_x [] [(1, 3)] ?_
  refine ⟨_, (idx49_ _ _ _ hl hf), (.lit (.bool (l.any p))), PO_eqv (PO_int rfl rfl rfl rfl trivial) (idxF_any p l 0 (by omega)), ?_⟩
  exact AW_ret (ret_le2 (.inl rfl) rfl rfl (.refl _))
theorem idx80_ (f : AV) (p : Lt → Bool) (l : List Lt) (hl : l.length ≤ 1048576) (hf : ∀ x ∈ l, PFn PR f [.agg (eLit x)] (.lit (.bool (p x)))) : PFn PR (.fn (.func 79) [] []) [.sl .any 21 (l.map eLit), f] (.lit (.int .i64 (idxF p l 0))) := by
  refine PFn_of Go.Proofs.Tryz.func79 rfl (by rfl) Go.Proofs.Tryz.ntmps79 rfl (by simp) fun h => ?_
  refine AW_x [] [] ?_
  refine ⟨L44, _, lm, ?_⟩
  refine AW_it [] [] [(0, _), (1, _), (4, _), (7, _)] (fun (i : Nat) => [(8, .lit (.int .i64 ((i : Nat) : Int)))]) (fun (i : Nat) => h) (fun (i : Nat) => i ≤ l.length ∧ idxF p l 0 = idxF p (l.drop i) i) (fun (i : Nat) => l.length - i) (0) ⟨rfl, rfl, rfl, rfl, trivial⟩ ⟨rfl, trivial⟩ rfl (⟨by omega, rfl⟩) ?_
  rintro i ⟨hIi, hSi⟩
  refine brD (fun hc0 => ?_) (fun hc0 => ?_)
  · skip
    obtain ⟨x, hrx, hdx, hmx⟩ := drop_at (l := l) (i := i) (by omega)
    rw [hdx, idxF] at hSi
    refine ⟨L44, _, ⟨rfl, (by first | decide | omega), (mget hrx)⟩, T68, _, (hf x hmx), fun hc4 => ?_, fun hc4 => ?_⟩
    · skip
      rw [if_pos hc4] at hSi
      exact AW_ret (ret_le2 (.inl rfl) rfl (by rw [hSi]) (.refl _))
    · skip
      rw [if_neg (by rw [hc4]; simp)] at hSi
      refine ⟨_, f1 (by first | omega | (simp_all <;> omega)), ?_⟩
      exact ⟨i + 1, ⟨by omega, hSi⟩, by omega, ⟨rfl, ⟨rfl, rfl, rfl, rfl, rfl, trivial⟩, rfl, rfl, rfl⟩⟩
  · skip
    rw [drop_end (l := l) (i := i) (by omega), idxF] at hSi
    exact AW_ret (ret_le2 (.inl rfl) rfl (by rw [hSi]) (.refl _))
theorem has66_ (f : AV) (p : Lt → Bool) (l : List Lt) (hl : l.length ≤ 1048576) (hf : ∀ x ∈ l, PFn PR f [.agg (eLit x)] (.lit (.bool (p x)))) : PFn PR (.fn (.func 66) [] []) [.sl .any 21 (l.map eLit), f] (.lit (.bool (l.any p))) := by
  refine PFn_of Go.Proofs.Tryz.func66 rfl (by rfl) Go.Proofs.Tryz.ntmps66 rfl (by simp) fun h => ?_
  refine AW_x [] [(1, 3)] ?_
  refine ⟨_, (idx80_ _ _ _ hl hf), (.lit (.bool (l.any p))), PO_eqv (PO_int rfl rfl rfl rfl trivial) (idxF_any p l 0 (by omega)), ?_⟩
  exact AW_ret (ret_le2 (.inl rfl) rfl rfl (.refl _))
end Go.AM.Tryd
end
section
set_option maxRecDepth 100000
set_option maxHeartbeats 4000000
set_option linter.unusedVariables false
set_option linter.unusedSimpArgs false
namespace Go.AM.Tryd
open Go Go.AM Go.AM.D
def k1F (t : Term) : Bool := iriU t.text && decide (t.extra = ⟨#[]⟩)
def k2F (t : Term) : Bool := blankF t.text && decide (t.extra = ⟨#[]⟩)
def k3F (t : Term) : Bool := valU t.text && decide (t.extra = ⟨#[]⟩)
def k5F (t : Term) : Bool := (valU t.text && iriU t.extra) && decide (t.extra ≠ xsd)
theorem kind94_ (t : Term) (ht : okT t) : PFn PR (.fn (.func 94) [] []) [.agg (eTerm t)] (.lit (.bool (k1F t))) := by
  have h1 := ht.1
  have h2 := ht.2
  refine PFn_of Go.Proofs.Tryz.func94 rfl (by rfl) Go.Proofs.Tryz.ntmps94 rfl (by simp) fun h => ?_
  refine AW_x [] [] ?_
  refine ⟨F25_1, T9, _, (iri95_ _ (by first | assumption | omega)), _, fun hg6 => ⟨F25_2, T9, rfl⟩, ?_⟩
  exact AW_ret (ret_le2 (.inl rfl) rfl rfl (.refl _))
theorem kind96_ (t : Term) (ht : okT t) : PFn PR (.fn (.func 96) [] []) [.agg (eTerm t)] (.lit (.bool (k2F t))) := by
  have h1 := ht.1
  have h2 := ht.2
  refine PFn_of Go.Proofs.Tryz.func96 rfl (by rfl) Go.Proofs.Tryz.ntmps96 rfl (by simp) fun h => ?_
  refine AW_x [] [] ?_
  refine ⟨F25_1, T9, _, (blank_ _ (by first | assumption | omega)), _, fun hg6 => ⟨F25_2, T9, rfl⟩, ?_⟩
  exact AW_ret (ret_le2 (.inl rfl) rfl rfl (.refl _))
theorem kind98_ (t : Term) (ht : okT t) : PFn PR (.fn (.func 98) [] []) [.agg (eTerm t)] (.lit (.bool (k3F t))) := by
  have h1 := ht.1
  have h2 := ht.2
  refine PFn_of Go.Proofs.Tryz.func98 rfl (by rfl) Go.Proofs.Tryz.ntmps98 rfl (by simp) fun h => ?_
  refine AW_x [] [] ?_
  refine ⟨F25_1, T9, _, (value_ _ (by first | assumption | omega)), _, fun hg6 => ⟨F25_2, T9, rfl⟩, ?_⟩
  exact AW_ret (ret_le2 (.inl rfl) rfl rfl (.refl _))
theorem kind102_ (t : Term) (ht : okT t) : PFn PR (.fn (.func 102) [] []) [.agg (eTerm t)] (.lit (.bool (k5F t))) := by
  have h1 := ht.1
  have h2 := ht.2
  refine PFn_of Go.Proofs.Tryz.func102 rfl (by rfl) Go.Proofs.Tryz.ntmps102 rfl (by simp) fun h => ?_
  refine AW_x [] [] ?_
  refine ⟨F25_1, T9, _, (value_ _ (by first | assumption | omega)), _, fun hg6 => ⟨F25_2, T9, _, (iri95_ _ (by first | assumption | omega)), rfl⟩, _, fun hg11 => ⟨F25_2, T9, rfl⟩, ?_⟩
  exact AW_ret (ret_le2 (.inl rfl) rfl rfl (.refl _))
def kindsEs : List (List Value × AV) := [([.int .i64 1], .fn (.func 94) [] []), ([.int .i64 2], .fn (.func 96) [] []), ([.int .i64 3], .fn (.func 98) [] []), ([.int .i64 4], .fn (.func 100) [] []), ([.int .i64 5], .fn (.func 102) [] [])]
theorem kinds92_  : PFn PR (.fn (.func 91) [] []) [] (.im ks23 false kindsEs) := by
  refine PFn_of Go.Proofs.Tryz.func91 rfl (by rfl) Go.Proofs.Tryz.ntmps91 rfl (by simp) fun h => ?_
  refine AW_x [] [(1, 6), (1, 7)] ?_
  refine AL_makeMap ks23 false rfl rfl rfl rfl fun b hb => ?_
  refine AL_mapUpd (es := []) (v := .fn (.func 94) [] []) rfl rfl (.inr rfl) un151 key23 rfl rfl rfl rfl rfl ?_
  refine AL_mapUpd (es := [([.int .i64 1], .fn (.func 94) [] [])]) (v := .fn (.func 96) [] []) rfl rfl (.inr rfl) un151 key23 rfl rfl rfl rfl rfl ?_
  refine AL_mapUpd (es := [([.int .i64 1], .fn (.func 94) [] []), ([.int .i64 2], .fn (.func 96) [] [])]) (v := .fn (.func 98) [] []) rfl rfl (.inr rfl) un151 key23 rfl rfl rfl rfl rfl ?_
  refine AL_mapUpd (es := [([.int .i64 1], .fn (.func 94) [] []), ([.int .i64 2], .fn (.func 96) [] []), ([.int .i64 3], .fn (.func 98) [] [])]) (v := .fn (.func 100) [] []) rfl rfl (.inr rfl) un151 key23 rfl rfl rfl rfl rfl ?_
  refine AL_mapUpd (es := [([.int .i64 1], .fn (.func 94) [] []), ([.int .i64 2], .fn (.func 96) [] []), ([.int .i64 3], .fn (.func 98) [] []), ([.int .i64 4], .fn (.func 100) [] [])]) (v := .fn (.func 102) [] []) rfl rfl (.inr rfl) un151 key23 rfl rfl rfl rfl rfl ?_
  refine AL_mpf1 (k := 1) (es := kindsEs) rfl hb ?_
  refine AL_x [] [6, 7] 6 ?_
  refine ⟨(.im ks23 false kindsEs), PO_move rfl rfl, (.im ks23 false kindsEs), PO_assign rfl rfl, ?_⟩
  exact AW_ret (ret_le2 (.inl rfl) rfl rfl (.refl _))
end Go.AM.Tryd
end
section
set_option maxRecDepth 100000
set_option maxHeartbeats 4000000
set_option linter.unusedVariables false
set_option linter.unusedSimpArgs false
namespace Go.AM.Tryd
open Go Go.AM Go.AM.D
abbrev dash : ByteArray := ⟨#[45]⟩
def cntB (s : ByteArray) : Nat := Lib.countByte s.data.toList 45
theorem cnt124_ (s : ByteArray) : PFn PR (.fn (.func 125) [] []) [.lit (.string s), .lit (.int .u8 (((45 : UInt8)).toNat : Int))] (.lit (.int .i64 ((cntB s : Nat) : Int))) :=
  PFn_extern (us := [.string s, .int .u8 (((45 : UInt8)).toNat : Int)]) Go.Proofs.Tryz.func125 (by rfl) rfl (by kernel_rfl) (by rfl) (fun w => Lib.run_countString s _ w) rfl
theorem dash0 : dash[(0 : Int).toNat]? = some 45 := rfl
theorem dash_size : (dash.size : Int) = 1 := rfl
theorem cntB_le (s : ByteArray) : cntB s ≤ s.size := by
  have : cntB s ≤ s.data.toList.length := List.count_le_length
  simpa using this
theorem count_ (s : ByteArray) (hs : s.size ≤ 1048576) : PFn PR (.fn (.func 121) [] []) [.lit (.string s), .lit (.string dash)] (.lit (.int .i64 ((cntB s : Nat) : Int))) := by
  refine PFn_of Go.Proofs.Tryz.func121 rfl (by rfl) Go.Proofs.Tryz.ntmps121 rfl (by simp) fun h => ?_
  refine AW_x [] [] ?_
  refine ⟨un9, brD (fun hc1 => ?_) (fun hc1 => ?_)⟩
  · skip
    exact absurd hc1 (by decide)
  · skip
    refine ⟨un9, brD (fun hc3 => ?_) (fun hc3 => ?_)⟩
    · skip
      refine ⟨_, ⟨un9, (by first | decide | omega), dash0⟩, _, (cnt124_ _), ?_⟩
      exact AW_ret (ret_le2 (.inl rfl) rfl rfl (.refl _))
    · skip
      exact absurd (by decide) hc3
def ixD (s : ByteArray) : Int := ixB s (((45 : UInt8)).toNat : Int)
theorem sindex_ (s : ByteArray) (hs : s.size ≤ 1048576) : PFn PR (.fn (.func 126) [] []) [.lit (.string s), .lit (.string dash)] (.lit (.int .i64 (ixD s))) := by
  refine PFn_of Go.Proofs.Tryz.func126 rfl (by rfl) Go.Proofs.Tryz.ntmps126 rfl (by simp) fun h => ?_
  refine AW_x [] [] ?_
  refine ⟨un9, _, fun hg19 => rfl, fun hc2 => ?_, fun hc2 => ?_⟩
  · skip
    have he : dash = s := by
      rcases (Bool.or_eq_true _ _).mp hc2 with e | e
      · exact absurd (of_decide_eq_true e) (by decide)
      · exact of_decide_eq_true e
    exact AW_ret (ret_le2 (.inl rfl) rfl (by rw [← he]; rfl) (.refl _))
  · skip
    refine brD (fun hc4 => ?_) (fun hc4 => ?_)
    · skip
      refine ⟨_, ⟨un9, (by first | decide | omega), dash0⟩, _, (ib114_ _ _), ?_⟩
      exact AW_ret (ret_le2 (.inl rfl) rfl rfl (.refl _))
    · skip
      exact absurd (by decide) hc4
theorem index_ (s : ByteArray) (hs : s.size ≤ 1048576) : PFn PR (.fn (.func 122) [] []) [.lit (.string s), .lit (.string dash)] (.lit (.int .i64 (ixD s))) := by
  refine PFn_of Go.Proofs.Tryz.func122 rfl (by rfl) Go.Proofs.Tryz.ntmps122 rfl (by simp) fun h => ?_
  refine AW_x [] [] ?_
  refine ⟨_, (sindex_ _ (by first | assumption | omega)), ?_⟩
  exact AW_ret (ret_le2 (.inl rfl) rfl rfl (.refl _))
theorem ixD_lt (s : ByteArray) : -1 ≤ ixD s ∧ (0 ≤ ixD s → ixD s < (s.size : Int)) := by
  have key : ∀ (l : List UInt8) (c : UInt8), 0 ≤ Lib.indexByte l c → Lib.indexByte l c < (l.length : Int) := by
    intro l c
    induction l with
    | nil => intro h; simp [Lib.indexByte] at h
    | cons x l ih =>
      intro h
      unfold Lib.indexByte at h ⊢
      split at h
      · rename_i e; rw [if_pos e]; simp only [List.length_cons]; omega
      · rename_i e
        rw [if_neg e]
        split at h
        · simp at h
        · rename_i e2
          rw [if_neg e2]
          have e3 : Lib.indexByte l c ≠ -1 := by simpa using e2
          have := Lib.indexByte_ge l c
          have := ih (by omega)
          simp only [List.length_cons]; omega
  refine ⟨Lib.indexByte_ge _ _, fun h => ?_⟩
  have := key _ _ h
  have e : s.data.toList.length = s.size := Array.length_toList
  rw [e] at this
  exact this
def piecesG : Nat → ByteArray → List ByteArray
  | 0, s => [s]
  | k + 1, s => if ixD s < 0 then [s] else s.extract 0 (ixD s).toNat :: piecesG k (s.extract ((ixD s).toNat + 1) s.size)
def splitD (s : ByteArray) : List ByteArray := piecesG (min (cntB s + 1) (s.size + 1) - 1) s
def nP (s : ByteArray) : Nat := min (cntB s + 1) (s.size + 1)
theorem nP_le (s : ByteArray) : 1 ≤ nP s ∧ nP s ≤ s.size + 1 := by unfold nP; omega
def rowC (acc : List ByteArray) (k : Nat) : List AV := (acc.map fun x => AV.lit (.string x)) ++ List.replicate k (.lit (.string ⟨#[]⟩))
theorem rowC_len (acc : List ByteArray) (k : Nat) : (rowC acc k).length = acc.length + k := by simp [rowC]
theorem rowC_set {acc : List ByteArray} {k : Nat} (x : ByteArray) : setCells (rowC acc (k + 1)) (0 + acc.length * 1) (acells (.lit (.string x))) = rowC (acc ++ [x]) k := by
  have h1 : (acc.map fun x => AV.lit (.string x)).length = acc.length := by simp
  simp only [rowC, setCells, acells, Nat.zero_add, Nat.mul_one, List.length_singleton, List.map_append, List.map_cons, List.map_nil]
  rw [List.take_append_of_le_length (by omega), List.take_of_length_le (by omega), List.drop_append, List.drop_of_length_le (by omega), h1, List.replicate_succ]
  simp
theorem rowC_set2 {acc : List ByteArray} {k k2 i : Nat} (hA : acc.length = i) (hk : k = k2 + 1) (x : ByteArray) : some (AObj.row (setCells (rowC acc k) (0 + i * 1) (acells (.lit (.string x))))) = some (AObj.row (rowC (acc ++ [x]) k2)) := by
  subst hA; subst hk; rw [rowC_set]
theorem rowC_zero (k : Nat) : azeros zs9 k = rowC [] k := by
  induction k with
  | zero => rfl
  | succ k ih =>
    have : azeros zs9 (k + 1) = zs9 ++ azeros zs9 k := by simp [azeros, List.replicate_succ]
    rw [this, ih]; rfl
theorem rowC_get {acc : List ByteArray} {k : Nat} : ∀ i e j a, (acc.map eStr)[i]? = some e → e[j]? = some a → (rowC acc k)[0 + 0 * 1 + i * 1 + j]? = some a := by
  intro i e j a h1 h2
  rw [List.getElem?_map] at h1
  cases hx : acc[i]? with
  | none => rw [hx] at h1; cases h1
  | some x =>
    rw [hx] at h1
    simp only [Option.map_some, Option.some.injEq] at h1
    subst h1
    have hi := (List.getElem?_eq_some_iff.1 hx).1
    cases j with
    | zero =>
      simp only [eStr, List.getElem?_cons_zero, Option.some.injEq] at h2
      subst h2
      simp only [rowC, Nat.zero_mul, Nat.zero_add, Nat.mul_one, Nat.add_zero]
      rw [List.getElem?_append_left (by simpa using hi), List.getElem?_map, hx]; rfl
    | succ j => simp [eStr] at h2
theorem gensplit_ (s : ByteArray) (hs : s.size ≤ 1048576) : PFn PR (.fn (.func 116) [] []) [.lit (.string s), .lit (.string dash), .lit (.int .i64 0), .lit (.int .i64 (-1))] (.sl .any 1 ((splitD s).map eStr)) := by
  have hnP := nP_le s
  have hcn := cntB_le s
  refine PFn_of Go.Proofs.Tryz.func116 rfl (by rfl) Go.Proofs.Tryz.ntmps116 rfl (by simp) fun h => ?_
  refine AW_x [] [(9, 1), (17, 3)] ?_
  refine ⟨1, brD (fun hc1 => ?_) (fun hc1 => ?_)⟩
  · skip
    exact absurd hc1 (by decide)
  · skip
    refine brD (fun hc3 => ?_) (fun hc3 => ?_)
    · skip
      exact absurd hc3 (by decide)
    · skip
      refine brD (fun hc5 => ?_) (fun hc5 => ?_)
      · skip
        refine ⟨_, (count_ _ (by first | assumption | omega)), _, f1 (by first | omega | (simp_all <;> omega)), un9, _, f1 (by first | omega | (simp_all <;> omega)), (.lit (.int .i64 ((nP s : Nat) : Int))), PO_eqI (PO_min rfl rfl rfl) (by unfold nP; split <;> omega), ?_⟩
        refine AL_makeSl (c := nP s) rfl rfl rfl rfl un90 ty9 z9 rfl by9 rfl rfl (by omega) (by omega) fun b hb => ?_
        refine AL_x [] [] 2 ?_
        refine ⟨(.lit (.int .i64 ((nP s - 1 : Nat) : Int))), PO_fit rfl rfl rfl rfl trivial (by rw [i64w (by omega) (by omega)]; omega), ?_⟩
        refine AW_it [] [(14, 5), (14, 7), (15, 3), (15, 4)] [(1, _), (2, _), (3, _), (8, _)] (fun (z_ : Nat × ByteArray × List ByteArray × Heap) => match z_ with | (i, u, acc, hp) => [(10, .lit (.int .i64 ((i : Nat) : Int))), (0, .lit (.string u)), (9, .ms b 0 1 (nP s) (nP s))]) (fun (z_ : Nat × ByteArray × List ByteArray × Heap) => match z_ with | (i, u, acc, hp) => hp) (fun (z_ : Nat × ByteArray × List ByteArray × Heap) => match z_ with | (i, u, acc, hp) => i ≤ nP s - 1 ∧ u.size ≤ s.size ∧ acc.length = i ∧ splitD s = acc ++ piecesG (nP s - 1 - i) u ∧ h.le hp ∧ hp b = some (.row (rowC acc (nP s - i)))) (fun (z_ : Nat × ByteArray × List ByteArray × Heap) => match z_ with | (i, u, acc, hp) => nP s - 1 - i) ((0, s, [], (h.upd b (some (.row (azeros zs9 (nP s))))))) ⟨rfl, rfl, rfl, rfl, trivial⟩ ⟨rfl, rfl, rfl, trivial⟩ rfl (⟨by omega, by omega, rfl, rfl, Heap.le_upd (.refl h) hb _, (Heap.upd_same _ _ _).trans (by rw [rowC_zero]; rfl)⟩) ?_
        rintro ⟨i, u, acc, hp⟩ ⟨hIi, hu, hA, hS, hle, hrow⟩
        have hix := ixD_lt u
        have hus : u.size ≤ 1048576 := by omega
        refine brD (fun hc11 => ?_) (fun hc11 => ?_)
        · skip
          have hpk : nP s - 1 - i = (nP s - 1 - (i + 1)) + 1 := by omega
          rw [hpk, piecesG] at hS
          refine ⟨_, (index_ _ (by first | assumption | omega)), brD (fun hc13 => ?_) (fun hc13 => ?_)⟩
          · skip
            rw [if_pos hc13] at hS
            refine ⟨(.ptr b (0 + i * 1)), PO_indexAddr_ms (i := ((i : Nat) : Int)) rfl un90 ty9 rfl rfl (by omega) (by omega), ?_⟩
            refine AL_store (b := b) (off := 0 + i * 1) (cs := rowC acc (nP s - i)) (v := .lit (.string u)) rfl rfl rfl ty9 rfl rfl hrow rfl rfl (by rw [rowC_len]; omega) ?_
            refine AL_nil ?_
            refine ⟨_, f1 (by first | omega | (simp_all <;> omega)), (.ms b (0 + 0 * 1) 1 (i + 1 - 0) (nP s - 0)), PO_slice_ms (i := 0) (j := ((i + 1 : Nat) : Int)) rfl un90 ty9 rfl rfl rfl (by omega) (by omega) (by omega) (.inl rfl), ?_⟩
            refine AW_ghost (ghost_ms (k := 8) (es := (acc ++ [u]).map eStr) (cs := rowC (acc ++ [u]) (nP s - i - 1)) rfl ((Heap.upd_same _ _ _).trans (rowC_set2 hA (by omega) _)) (by simp; omega) (by intro e he; rw [List.mem_map] at he; obtain ⟨x, -, rfl⟩ := he; rfl) rowC_get (by omega)) ?_
            refine AW_ret ?_
            exact ret_le2 (.inl rfl) rfl (by rw [hS]) (Heap.le_upd (Heap.le_upd hle hb _) hb _)
          · skip
            rw [if_neg hc13] at hS
            refine ⟨(.lit (.int .i64 (ixD u))), PO_fit rfl rfl rfl rfl trivial (by rw [i64w (by omega) (by omega)]; omega), (.lit (.string (u.extract 0 ((ixD u)).toNat))), PO_slice_str (l := 0) (h := (ixD u)) rfl un9 rfl rfl rfl (by omega) (by omega) (by omega), (.ptr b (0 + i * 1)), PO_indexAddr_ms (i := ((i : Nat) : Int)) rfl un90 ty9 rfl rfl (by omega) (by omega), ?_⟩
            refine AL_store (b := b) (off := 0 + i * 1) (cs := rowC acc (nP s - i)) (v := .lit (.string (u.extract 0 (ixD u).toNat))) rfl rfl rfl ty9 rfl rfl hrow rfl rfl (by rw [rowC_len]; omega) ?_
            refine AL_nil ?_
            refine ⟨(.lit (.int .i64 1)), PO_len_str (s := dash) rfl un9 rfl, (.lit (.int .i64 (((ixD u).toNat + 1 : Nat) : Int))), PO_fit rfl rfl rfl rfl trivial (by rw [i64w (by omega) (by omega)]; omega), (.lit (.string (u.extract ((ixD u).toNat + 1) u.size))), PO_slice_str (l := (((ixD u).toNat + 1 : Nat) : Int)) (h := (u.size : Int)) rfl un9 rfl rfl rfl (by omega) (by omega) (by omega), _, f1 (by first | omega | (simp_all <;> omega)), ?_⟩
            exact ⟨(i + 1, (u.extract ((ixD u).toNat + 1) u.size), acc ++ [(u.extract 0 (ixD u).toNat)], _), ⟨by omega, by rw [ByteArray.size_extract]; omega, by rw [List.length_append, hA]; rfl, by rw [hS, List.append_assoc]; rfl, Heap.le_upd hle hb _, (Heap.upd_same _ _ _).trans (rowC_set2 hA (by omega) _)⟩, by simp only []; omega, ⟨rfl, ⟨rfl, rfl, rfl, rfl, rfl, rfl, rfl, trivial⟩, rfl, rfl, rfl⟩⟩
        · skip
          rw [show nP s - 1 - i = 0 by omega, piecesG] at hS
          refine ⟨(.ptr b (0 + i * 1)), PO_indexAddr_ms (i := ((i : Nat) : Int)) rfl un90 ty9 rfl rfl (by omega) (by omega), ?_⟩
          refine AL_store (b := b) (off := 0 + i * 1) (cs := rowC acc (nP s - i)) (v := .lit (.string u)) rfl rfl rfl ty9 rfl rfl hrow rfl rfl (by rw [rowC_len]; omega) ?_
          refine AL_nil ?_
          refine ⟨_, f1 (by first | omega | (simp_all <;> omega)), (.ms b (0 + 0 * 1) 1 (i + 1 - 0) (nP s - 0)), PO_slice_ms (i := 0) (j := ((i + 1 : Nat) : Int)) rfl un90 ty9 rfl rfl rfl (by omega) (by omega) (by omega) (.inl rfl), ?_⟩
          refine AW_ghost (ghost_ms (k := 8) (es := (acc ++ [u]).map eStr) (cs := rowC (acc ++ [u]) (nP s - i - 1)) rfl ((Heap.upd_same _ _ _).trans (rowC_set2 hA (by omega) _)) (by simp; omega) (by intro e he; rw [List.mem_map] at he; obtain ⟨x, -, rfl⟩ := he; rfl) rowC_get (by omega)) ?_
          refine AW_ret ?_
          exact ret_le2 (.inl rfl) rfl (by rw [hS]) (Heap.le_upd (Heap.le_upd hle hb _) hb _)
      · skip
        exact absurd (by decide) hc5
theorem split_ (s : ByteArray) (hs : s.size ≤ 1048576) : PFn PR (.fn (.func 109) [] []) [.lit (.string s), .lit (.string dash)] (.sl .any 1 ((splitD s).map eStr)) := by
  refine PFn_of Go.Proofs.Tryz.func109 rfl (by rfl) Go.Proofs.Tryz.ntmps109 rfl (by simp) fun h => ?_
  refine AW_x [] [] ?_
  refine ⟨1, _, (gensplit_ _ (by first | assumption | omega)), ?_⟩
  exact AW_ret (ret_le2 (.inl rfl) rfl rfl (.refl _))
end Go.AM.Tryd
end
section
set_option maxRecDepth 100000
set_option maxHeartbeats 4000000
set_option linter.unusedVariables false
set_option linter.unusedSimpArgs false
namespace Go.AM.Tryd
open Go Go.AM Go.AM.D
theorem piecesG_size : ∀ (k : Nat) (s : ByteArray), ∀ x ∈ piecesG k s, x.size ≤ s.size := by
  intro k
  induction k with
  | zero => intro s x hx; simp only [piecesG, List.mem_singleton] at hx; subst hx; exact Nat.le_refl _
  | succ k ih =>
    intro s x hx
    rw [piecesG] at hx
    split at hx
    · simp only [List.mem_singleton] at hx; subst hx; exact Nat.le_refl _
    · rcases List.mem_cons.1 hx with rfl | hx
      · rw [ByteArray.size_extract]; omega
      · have := ih _ x hx; rw [ByteArray.size_extract] at this; omega
theorem piecesG_len : ∀ (k : Nat) (s : ByteArray), (piecesG k s).length ≤ k + 1 := by
  intro k
  induction k with
  | zero => intro s; simp [piecesG]
  | succ k ih =>
    intro s
    rw [piecesG]
    split
    · simp
    · have := ih (s.extract ((ixD s).toNat + 1) s.size); simp only [List.length_cons]; omega
theorem splitD_len (s : ByteArray) : (splitD s).length ≤ s.size + 1 := by
  have := piecesG_len (min (cntB s + 1) (s.size + 1) - 1) s
  unfold splitD; omega
def tagUB (i : Int) (c : Int) : Bool := (decide (c < 97) || decide (c > 122)) && (decide (i = 0) || !digitF c)
def partU (i : Int) : List UInt8 → Bool
  | [] => true
  | x :: l => if tagUB i ((x : UInt8).toNat : Int) = true then false else partU i l
def partsU : Int → List ByteArray → Bool
  | _, [] => true
  | i, p :: l => if p = ⟨#[]⟩ then false else if partU i (bys p) = true then partsU (i + 1) l else false
def tagU (s : ByteArray) : Bool := if partsU 0 (splitD s) = true then decide ((s.size : Int) ≤ 35) else false
theorem tag101_ (s : ByteArray) (hs : s.size ≤ 1048576) : PFn PR (.fn (.func 101) [] []) [.lit (.string s)] (.lit (.bool (tagU s))) := by
  have hsl := splitD_len s
  refine PFn_of Go.Proofs.Tryz.func101 rfl (by rfl) Go.Proofs.Tryz.ntmps101 rfl (by simp) fun h => ?_
  refine AW_x [] [] ?_
  refine ⟨_, (split_ _ (by first | assumption | omega)), L90, _, lm, ?_⟩
  refine AW_it [] [] [(0, _), (2, _), (8, _), (9, _)] (fun (i : Nat) => [(10, .lit (.int .i64 ((i : Nat) : Int)))]) (fun (i : Nat) => h) (fun (i : Nat) => i ≤ (splitD s).length ∧ partsU 0 (splitD s) = partsU ((i : Nat) : Int) ((splitD s).drop i)) (fun (i : Nat) => (splitD s).length - i) (0) ⟨rfl, rfl, rfl, rfl, trivial⟩ ⟨rfl, trivial⟩ rfl (⟨by omega, rfl⟩) ?_
  rintro i ⟨hIi, hSi⟩
  refine brD (fun hc0 => ?_) (fun hc0 => ?_)
  · skip
    obtain ⟨q, hrq, hdq, hmq⟩ := drop_at (l := (splitD s)) (i := i) (by omega)
    rw [hdq, partsU] at hSi
    have hqs : q.size ≤ 1048576 := Nat.le_trans (piecesG_size _ _ q hmq) hs
    have hqz := bsize q
    refine ⟨L90, _, ⟨rfl, (by first | decide | omega), (mget hrq)⟩, T9, brD (fun hc4 => ?_) (fun hc4 => ?_)⟩
    · skip
      rw [if_pos hc4] at hSi
      have hw : tagU s = false := by rw [tagU, hSi]; rfl
      exact AW_ret (ret_le2 (.inl rfl) rfl (by rw [hw]) (.refl _))
    · skip
      rw [if_neg hc4] at hSi
      refine ⟨un9, ?_⟩
      refine AW_it [] [] [(10, _), (0, _), (2, _), (8, _), (9, _), (3, _), (4, _), (18, _)] (fun (k : Nat) => [(19, .lit (.int .i64 ((k : Nat) : Int)))]) (fun (k : Nat) => h) (fun (k : Nat) => k ≤ (bys q).length ∧ partU ((i : Nat) : Int) (bys q) = partU ((i : Nat) : Int) ((bys q).drop k)) (fun (k : Nat) => (bys q).length - k) (0) ⟨rfl, rfl, rfl, rfl, rfl, rfl, rfl, rfl, trivial⟩ ⟨rfl, trivial⟩ rfl (⟨by omega, rfl⟩) ?_
      rintro k ⟨hIk, hSk⟩
      refine brD (fun hc2 => ?_) (fun hc2 => ?_)
      · skip
        obtain ⟨x, hrx, hdx, hmx⟩ := drop_at (l := (bys q)) (i := k) (by omega)
        rw [hdx, partU] at hSk
        refine ⟨_, ⟨un9, (by first | decide | omega), (bget hrx)⟩, _, fun hg27 => rfl, _, fun hg31 => ⟨_, fun hg34 => ⟨_, (digit109_ _), rfl⟩, rfl⟩, fun hc10 => ?_, fun hc10 => ?_⟩
        · skip
          rw [tagUB, if_pos hc10] at hSk
          rw [hSk, if_neg (by simp)] at hSi
          have hw : tagU s = false := by rw [tagU, hSi]; rfl
          exact AW_ret (ret_le2 (.inl rfl) rfl (by rw [hw]) (.refl _))
        · skip
          rw [tagUB, if_neg (by rw [hc10]; simp)] at hSk
          refine ⟨_, f1 (by first | omega | (simp_all <;> omega)), ?_⟩
          exact ⟨k + 1, ⟨by omega, hSk⟩, by omega, ⟨rfl, ⟨rfl, rfl, rfl, rfl, rfl, rfl, rfl, rfl, rfl, trivial⟩, rfl, rfl, rfl⟩⟩
      · skip
        rw [drop_end (l := (bys q)) (i := k) (by omega), partU] at hSk
        rw [if_pos hSk] at hSi
        refine ⟨_, f1 (by first | omega | (simp_all <;> omega)), ?_⟩
        exact ⟨i + 1, ⟨by omega, hSi⟩, by omega, ⟨rfl, ⟨rfl, rfl, rfl, rfl, rfl, trivial⟩, rfl, rfl, rfl⟩⟩
  · skip
    rw [drop_end (l := (splitD s)) (i := i) (by omega), partsU] at hSi
    have hw : tagU s = decide ((s.size : Int) ≤ 35) := by rw [tagU, if_pos hSi]
    refine ⟨un9, ?_⟩
    exact AW_ret (ret_le2 (.inl rfl) rfl (by rw [hw]) (.refl _))
def k4F (t : Term) : Bool := valU t.text && tagU t.extra
theorem kind100_ (t : Term) (ht : okT t) : PFn PR (.fn (.func 100) [] []) [.agg (eTerm t)] (.lit (.bool (k4F t))) := by
  have h1 := ht.1
  have h2 := ht.2
  refine PFn_of Go.Proofs.Tryz.func100 rfl (by rfl) Go.Proofs.Tryz.ntmps100 rfl (by simp) fun h => ?_
  refine AW_x [] [] ?_
  refine ⟨F25_1, T9, _, (value_ _ (by first | assumption | omega)), _, fun hg6 => ⟨F25_2, T9, _, (tag101_ _ (by first | assumption | omega)), rfl⟩, ?_⟩
  exact AW_ret (ret_le2 (.inl rfl) rfl rfl (.refl _))
theorem PO_eqA {P : Program} {ρ : Option Nat} {o : Oper} {σ : AS} {v u : AV} (hp : PO P ρ o σ v) (e : v = u) : PO P ρ o σ u := e ▸ hp
def termU (t : Term) : Bool := if t.kind = 1 then k1F t else if t.kind = 2 then k2F t else if t.kind = 3 then k3F t else if t.kind = 4 then k4F t else if t.kind = 5 then k5F t else false
theorem may89_1 (x e : ByteArray) (ht : okT (⟨1, x, e⟩ : Term)) : PFn PR (.fn (.func 85) [] []) [.agg (eTerm (⟨1, x, e⟩ : Term))] (.lit (.bool (k1F (⟨1, x, e⟩ : Term)))) := by
  refine PFn_of Go.Proofs.Tryz.func85 rfl (by rfl) Go.Proofs.Tryz.ntmps85 rfl (by simp) fun h => ?_
  refine AW_x [] [(2, 1)] ?_
  refine ⟨⟨hmixed, by kernel_rfl⟩, _, kinds92_, F25_0, T23, (.fn (.func 94) [] []), PO_eqA (PO_lookup_im rfl un151 key23 zw139 rfl rfl rfl rfl) (by rfl), (.lit (.bool true)), PO_fnNil rfl (.inr rfl) un139 rfl rfl, _, fun hg10 => ⟨T25, _, (kind94_ _ (by assumption)), rfl⟩, ?_⟩
  exact AW_ret (ret_le2 (.inl rfl) rfl rfl (.refl _))
theorem may89_2 (x e : ByteArray) (ht : okT (⟨2, x, e⟩ : Term)) : PFn PR (.fn (.func 85) [] []) [.agg (eTerm (⟨2, x, e⟩ : Term))] (.lit (.bool (k2F (⟨2, x, e⟩ : Term)))) := by
  refine PFn_of Go.Proofs.Tryz.func85 rfl (by rfl) Go.Proofs.Tryz.ntmps85 rfl (by simp) fun h => ?_
  refine AW_x [] [(2, 1)] ?_
  refine ⟨⟨hmixed, by kernel_rfl⟩, _, kinds92_, F25_0, T23, (.fn (.func 96) [] []), PO_eqA (PO_lookup_im rfl un151 key23 zw139 rfl rfl rfl rfl) (by rfl), (.lit (.bool true)), PO_fnNil rfl (.inr rfl) un139 rfl rfl, _, fun hg10 => ⟨T25, _, (kind96_ _ (by assumption)), rfl⟩, ?_⟩
  exact AW_ret (ret_le2 (.inl rfl) rfl rfl (.refl _))
theorem may89_3 (x e : ByteArray) (ht : okT (⟨3, x, e⟩ : Term)) : PFn PR (.fn (.func 85) [] []) [.agg (eTerm (⟨3, x, e⟩ : Term))] (.lit (.bool (k3F (⟨3, x, e⟩ : Term)))) := by
  refine PFn_of Go.Proofs.Tryz.func85 rfl (by rfl) Go.Proofs.Tryz.ntmps85 rfl (by simp) fun h => ?_
  refine AW_x [] [(2, 1)] ?_
  refine ⟨⟨hmixed, by kernel_rfl⟩, _, kinds92_, F25_0, T23, (.fn (.func 98) [] []), PO_eqA (PO_lookup_im rfl un151 key23 zw139 rfl rfl rfl rfl) (by rfl), (.lit (.bool true)), PO_fnNil rfl (.inr rfl) un139 rfl rfl, _, fun hg10 => ⟨T25, _, (kind98_ _ (by assumption)), rfl⟩, ?_⟩
  exact AW_ret (ret_le2 (.inl rfl) rfl rfl (.refl _))
theorem may89_4 (x e : ByteArray) (ht : okT (⟨4, x, e⟩ : Term)) : PFn PR (.fn (.func 85) [] []) [.agg (eTerm (⟨4, x, e⟩ : Term))] (.lit (.bool (k4F (⟨4, x, e⟩ : Term)))) := by
  refine PFn_of Go.Proofs.Tryz.func85 rfl (by rfl) Go.Proofs.Tryz.ntmps85 rfl (by simp) fun h => ?_
  refine AW_x [] [(2, 1)] ?_
  refine ⟨⟨hmixed, by kernel_rfl⟩, _, kinds92_, F25_0, T23, (.fn (.func 100) [] []), PO_eqA (PO_lookup_im rfl un151 key23 zw139 rfl rfl rfl rfl) (by rfl), (.lit (.bool true)), PO_fnNil rfl (.inr rfl) un139 rfl rfl, _, fun hg10 => ⟨T25, _, (kind100_ _ (by assumption)), rfl⟩, ?_⟩
  exact AW_ret (ret_le2 (.inl rfl) rfl rfl (.refl _))
theorem may89_5 (x e : ByteArray) (ht : okT (⟨5, x, e⟩ : Term)) : PFn PR (.fn (.func 85) [] []) [.agg (eTerm (⟨5, x, e⟩ : Term))] (.lit (.bool (k5F (⟨5, x, e⟩ : Term)))) := by
  refine PFn_of Go.Proofs.Tryz.func85 rfl (by rfl) Go.Proofs.Tryz.ntmps85 rfl (by simp) fun h => ?_
  refine AW_x [] [(2, 1)] ?_
  refine ⟨⟨hmixed, by kernel_rfl⟩, _, kinds92_, F25_0, T23, (.fn (.func 102) [] []), PO_eqA (PO_lookup_im rfl un151 key23 zw139 rfl rfl rfl rfl) (by rfl), (.lit (.bool true)), PO_fnNil rfl (.inr rfl) un139 rfl rfl, _, fun hg10 => ⟨T25, _, (kind102_ _ (by assumption)), rfl⟩, ?_⟩
  exact AW_ret (ret_le2 (.inl rfl) rfl rfl (.refl _))
theorem no_kind {k : Int} (h1 : k ≠ 1) (h2 : k ≠ 2) (h3 : k ≠ 3) (h4 : k ≠ 4) (h5 : k ≠ 5) : alook false (aget [.int .i64 k] kindsEs) zv139 = .lit .nilFunc := by
  simp [kindsEs, aget, vEqs, vEq, h1, h2, h3, h4, h5, alook]
theorem may89_0 (t : Term) (h1 : t.kind ≠ 1) (h2 : t.kind ≠ 2) (h3 : t.kind ≠ 3) (h4 : t.kind ≠ 4) (h5 : t.kind ≠ 5) : PFn PR (.fn (.func 85) [] []) [.agg (eTerm t)] (.lit (.bool false)) := by
  refine PFn_of Go.Proofs.Tryz.func85 rfl (by rfl) Go.Proofs.Tryz.ntmps85 rfl (by simp) fun h => ?_
  refine AW_x [] [(2, 1)] ?_
  refine ⟨⟨hmixed, by kernel_rfl⟩, _, kinds92_, F25_0, T23, (.lit .nilFunc), PO_eqA (PO_lookup_im rfl un151 key23 zw139 rfl rfl rfl rfl) (no_kind h1 h2 h3 h4 h5), (.lit (.bool false)), PO_nilNil rfl (.inr rfl) un139 rfl rfl, false, nofun, ?_⟩
  exact AW_ret (ret_le2 (.inl rfl) rfl rfl (.refl _))
theorem may89_ (t : Term) (ht : okT t) : PFn PR (.fn (.func 85) [] []) [.agg (eTerm t)] (.lit (.bool (termU t))) := by
  obtain ⟨k, x, e⟩ := t
  unfold termU
  simp only
  split
  · rename_i h; subst h; exact may89_1 x e ht
  · rename_i h1; split
    · rename_i h; subst h; exact may89_2 x e ht
    · rename_i h2; split
      · rename_i h; subst h; exact may89_3 x e ht
      · rename_i h3; split
        · rename_i h; subst h; exact may89_4 x e ht
        · rename_i h4; split
          · rename_i h; subst h; exact may89_5 x e ht
          · rename_i h5; exact may89_0 ⟨k, x, e⟩ h1 h2 h3 h4 h5
end Go.AM.Tryd
end
section
set_option maxRecDepth 100000
set_option maxHeartbeats 4000000
set_option linter.unusedVariables false
set_option linter.unusedSimpArgs false
namespace Go.AM.Tryd
open Go Go.AM Go.AM.D
def slotU (s : Slot) : Bool := if s.var ≠ ⟨#[]⟩ then nameF s.var && decide (s.term = t0) else termU s.term
def patU (p : Pat) : Bool := (slotU p.a && slotU p.b) && slotU p.c
def partU2 (l : Lt) : Bool := if l.kind = 1 ∨ l.kind = 2 then (patU l.pat && decide (l.a = s0)) && decide (l.b = s0) else if l.kind = 3 ∨ l.kind = 4 then (decide (l.pat = p0) && slotU l.a) && slotU l.b else false
def mayU (r : Rule) : Bool := (patU r.head && decide ((r.body.length : Int) ≤ 64)) && !(r.body.any fun l => !partU2 l)
theorem slot79_ (s : Slot) (hok : okS s) : PFn PR (.fn (.func 78) [] []) [.agg (eSlot s)] (.lit (.bool (slotU s))) := by
  have h1 := hok.1
  refine PFn_of Go.Proofs.Tryz.func78 rfl (by rfl) Go.Proofs.Tryz.ntmps78 rfl (by simp) fun h => ?_
  refine AW_x [] [] ?_
  refine ⟨F41_0, T9, brD (fun hc1 => ?_) (fun hc1 => ?_)⟩
  · skip
    refine ⟨F41_0, T9, _, (name_ _ (by first | assumption | omega)), _, fun hg9 => ⟨F41_1, T25, (.agg (eTerm (⟨0, ⟨#[]⟩, ⟨#[]⟩⟩ : Term))), PO_build rfl z25 pl25 rfl rfl, _, q25 s.term (⟨0, ⟨#[]⟩, ⟨#[]⟩⟩ : Term), rfl⟩, ?_⟩
    exact AW_ret (ret_le2 (.inl rfl) rfl (by rw [slotU, if_pos hc1]) (.refl _))
  · skip
    refine ⟨F41_1, T25, _, (may89_ _ (by first | assumption | exact hok.2)), ?_⟩
    exact AW_ret (ret_le2 (.inl rfl) rfl (by rw [slotU, if_neg hc1]) (.refl _))
theorem pat65_ (p : Pat) (hok : okP p) : PFn PR (.fn (.func 65) [] []) [.agg (ePat p)] (.lit (.bool (patU p))) := by
  refine PFn_of Go.Proofs.Tryz.func65 rfl (by rfl) Go.Proofs.Tryz.ntmps65 rfl (by simp) fun h => ?_
  refine AW_x [] [] ?_
  refine ⟨A43, by decide, T41, _, (slot79_ _ (by first | assumption | exact hok.1 | exact hok.2.1 | exact hok.2.2)), _, fun hg6 => ⟨A43, by decide, T41, _, (slot79_ _ (by first | assumption | exact hok.1 | exact hok.2.1 | exact hok.2.2)), rfl⟩, _, fun hg11 => ⟨A43, by decide, T41, _, (slot79_ _ (by first | assumption | exact hok.1 | exact hok.2.1 | exact hok.2.2)), rfl⟩, ?_⟩
  exact AW_ret (ret_le2 (.inl rfl) rfl rfl (.refl _))
theorem part68_ (l : Lt) (hok : okL l) : PFn PR (.fn (.func 68) [] []) [.agg (eLit l)] (.lit (.bool (partU2 l))) := by
  refine PFn_of Go.Proofs.Tryz.func68 rfl (by rfl) Go.Proofs.Tryz.ntmps68 rfl (by simp) fun h => ?_
  refine AW_x [] [] ?_
  refine ⟨F68_0, T66, brD (fun hc2 => ?_) (fun hc2 => ?_)⟩
  · skip
    refine ⟨fun _ => ?_, fun e => absurd hc2 (of_decide_eq_false e)⟩
    refine ⟨F68_1, T43, _, (pat65_ _ (by first | assumption | exact hok.1)), _, fun hg11 => ⟨F68_2, T41, (.agg (eSlot (⟨⟨#[]⟩, (⟨0, ⟨#[]⟩, ⟨#[]⟩⟩ : Term)⟩ : Slot))), PO_build rfl z41 pl41 rfl rfl, _, q41 l.a (⟨⟨#[]⟩, (⟨0, ⟨#[]⟩, ⟨#[]⟩⟩ : Term)⟩ : Slot), rfl⟩, _, fun hg17 => ⟨F68_3, T41, (.agg (eSlot (⟨⟨#[]⟩, (⟨0, ⟨#[]⟩, ⟨#[]⟩⟩ : Term)⟩ : Slot))), PO_build rfl z41 pl41 rfl rfl, _, q41 l.b (⟨⟨#[]⟩, (⟨0, ⟨#[]⟩, ⟨#[]⟩⟩ : Term)⟩ : Slot), rfl⟩, ?_⟩
    exact AW_ret (ret_le2 (.inl rfl) rfl (by rw [partU2, if_pos (.inl hc2)]) (.refl _))
  · skip
    refine brD (fun hc3 => ?_) (fun hc3 => ?_)
    · skip
      refine ⟨F68_1, T43, _, (pat65_ _ (by first | assumption | exact hok.1)), _, fun hg11 => ⟨F68_2, T41, (.agg (eSlot (⟨⟨#[]⟩, (⟨0, ⟨#[]⟩, ⟨#[]⟩⟩ : Term)⟩ : Slot))), PO_build rfl z41 pl41 rfl rfl, _, q41 l.a (⟨⟨#[]⟩, (⟨0, ⟨#[]⟩, ⟨#[]⟩⟩ : Term)⟩ : Slot), rfl⟩, _, fun hg17 => ⟨F68_3, T41, (.agg (eSlot (⟨⟨#[]⟩, (⟨0, ⟨#[]⟩, ⟨#[]⟩⟩ : Term)⟩ : Slot))), PO_build rfl z41 pl41 rfl rfl, _, q41 l.b (⟨⟨#[]⟩, (⟨0, ⟨#[]⟩, ⟨#[]⟩⟩ : Term)⟩ : Slot), rfl⟩, ?_⟩
      exact AW_ret (ret_le2 (.inl rfl) rfl (by rw [partU2, if_pos (.inr hc3)]) (.refl _))
    · skip
      refine brD (fun hc5 => ?_) (fun hc5 => ?_)
      · skip
        refine ⟨fun _ => ?_, fun e => absurd hc5 (of_decide_eq_false e)⟩
        refine ⟨F68_1, T43, (.agg (ePat (⟨(⟨⟨#[]⟩, (⟨0, ⟨#[]⟩, ⟨#[]⟩⟩ : Term)⟩ : Slot), (⟨⟨#[]⟩, (⟨0, ⟨#[]⟩, ⟨#[]⟩⟩ : Term)⟩ : Slot), (⟨⟨#[]⟩, (⟨0, ⟨#[]⟩, ⟨#[]⟩⟩ : Term)⟩ : Slot)⟩ : Pat))), PO_build_arr rfl z43 un43 ty41 rfl rfl, _, q43 l.pat (⟨(⟨⟨#[]⟩, (⟨0, ⟨#[]⟩, ⟨#[]⟩⟩ : Term)⟩ : Slot), (⟨⟨#[]⟩, (⟨0, ⟨#[]⟩, ⟨#[]⟩⟩ : Term)⟩ : Slot), (⟨⟨#[]⟩, (⟨0, ⟨#[]⟩, ⟨#[]⟩⟩ : Term)⟩ : Slot)⟩ : Pat), _, fun hg30 => ⟨F68_2, T41, _, (slot79_ _ (by first | assumption | exact hok.1 | exact hok.2.1 | exact hok.2.2)), rfl⟩, _, fun hg35 => ⟨F68_3, T41, _, (slot79_ _ (by first | assumption | exact hok.1 | exact hok.2.1 | exact hok.2.2)), rfl⟩, ?_⟩
        exact AW_ret (ret_le2 (.inl rfl) rfl (by rw [partU2, if_neg (fun e => e.elim hc2 hc3), if_pos (.inl hc5)]) (.refl _))
      · skip
        refine brD (fun hc6 => ?_) (fun hc6 => ?_)
        · skip
          refine ⟨F68_1, T43, (.agg (ePat (⟨(⟨⟨#[]⟩, (⟨0, ⟨#[]⟩, ⟨#[]⟩⟩ : Term)⟩ : Slot), (⟨⟨#[]⟩, (⟨0, ⟨#[]⟩, ⟨#[]⟩⟩ : Term)⟩ : Slot), (⟨⟨#[]⟩, (⟨0, ⟨#[]⟩, ⟨#[]⟩⟩ : Term)⟩ : Slot)⟩ : Pat))), PO_build_arr rfl z43 un43 ty41 rfl rfl, _, q43 l.pat (⟨(⟨⟨#[]⟩, (⟨0, ⟨#[]⟩, ⟨#[]⟩⟩ : Term)⟩ : Slot), (⟨⟨#[]⟩, (⟨0, ⟨#[]⟩, ⟨#[]⟩⟩ : Term)⟩ : Slot), (⟨⟨#[]⟩, (⟨0, ⟨#[]⟩, ⟨#[]⟩⟩ : Term)⟩ : Slot)⟩ : Pat), _, fun hg30 => ⟨F68_2, T41, _, (slot79_ _ (by first | assumption | exact hok.1 | exact hok.2.1 | exact hok.2.2)), rfl⟩, _, fun hg35 => ⟨F68_3, T41, _, (slot79_ _ (by first | assumption | exact hok.1 | exact hok.2.1 | exact hok.2.2)), rfl⟩, ?_⟩
          exact AW_ret (ret_le2 (.inl rfl) rfl (by rw [partU2, if_neg (fun e => e.elim hc2 hc3), if_pos (.inr hc6)]) (.refl _))
        · skip
          exact AW_ret (ret_le2 (.inl rfl) rfl (by rw [partU2, if_neg (fun e => e.elim hc2 hc3), if_neg (fun e => e.elim hc5 hc6)]) (.refl _))
theorem notpart67_ (l : Lt) (hok : okL l) : PFn PR (.fn (.func 67) [] []) [.agg (eLit l)] (.lit (.bool (!partU2 l))) := by
  refine PFn_of Go.Proofs.Tryz.func67 rfl (by rfl) Go.Proofs.Tryz.ntmps67 rfl (by simp) fun h => ?_
  refine AW_x [] [] ?_
  refine ⟨T68, _, (part68_ _ (by first | assumption)), ?_⟩
  exact AW_ret (ret_le2 (.inl rfl) rfl rfl (.refl _))
theorem may47_ (r : Rule) (hok : okR r) : PFn PR (.fn (.func 44) [] []) [.agg (eRule r)] (.lit (.bool (mayU r))) := by
  refine PFn_of Go.Proofs.Tryz.func44 rfl (by rfl) Go.Proofs.Tryz.ntmps44 rfl (by simp) fun h => ?_
  refine AW_x [] [] ?_
  refine ⟨F46_0, T43, _, (pat65_ _ (by first | assumption | exact hok.1)), _, fun hg6 => ⟨F46_1, T44, L44, _, lm, rfl⟩, _, fun hg12 => ⟨F46_1, T44, _, (has66_ _ _ _ hok.2.1 (fun x hx => notpart67_ x (hok.2.2 x hx))), rfl⟩, ?_⟩
  exact AW_ret (ret_le2 (.inl rfl) rfl rfl (.refl _))
end Go.AM.Tryd
end
section
set_option maxRecDepth 100000
set_option maxHeartbeats 4000000
set_option linter.unusedVariables false
set_option linter.unusedSimpArgs false
namespace Go.AM.Tryd
open Go Go.AM Go.AM.D
theorem places_ (r : Rule) : PFn PR (.fn (.func 45) [] []) [.agg (eRule r)] (.fn (.func 69) [] [.ip (eRule r)]) := by
  refine PFn_of Go.Proofs.Tryz.func45 rfl (by rfl) Go.Proofs.Tryz.ntmps45 rfl (by simp) fun h => ?_
  refine AW_x [] [] ?_
  refine ⟨(.fn (.func 69) [] [.ip (eRule r)]), PO_makeFunc rfl rfl rfl, ?_⟩
  exact AW_ret (ret_le2 (.inl rfl) rfl rfl (.refl _))
def bodyP : Int → List Lt → List (Int × Slot)
  | _, [] => []
  | i, x :: b => (slotsR x).map (fun s => (i, s)) ++ bodyP (i + 1) b
def headP (p : Pat) : List (Int × Slot) := [(-1, p.a), (-1, p.b), (-1, p.c)]
def placesL (r : Rule) : List (Int × Slot) := headP r.head ++ bodyP 0 r.body
def encP (p : Int × Slot) : List AV := [.lit (.int .i64 p.1), .agg (eSlot p.2)]
theorem headP_drop {p : Pat} {k : Nat} (h : k < 3) : (headP p).drop k = (-1, patAt p k) :: (headP p).drop (k + 1) := by
  rcases k with _ | _ | _ | k <;> first | rfl | omega
theorem drop_app {α : Type} {l m : List α} {k : Nat} (h : k ≤ l.length) : (l ++ m).drop k = l.drop k ++ m := List.drop_append_of_le_length h
theorem next_of {α : Type} {xs : List α} {q : Nat} {x : α} {l : List α} (h : xs.drop q = x :: l) : xs[q]? = some x ∧ q < xs.length ∧ xs.drop (q + 1) = l := by
  have h1 : xs[q]? = some x := by rw [← List.head?_drop, h]; rfl
  exact ⟨h1, (List.getElem?_eq_some_iff.1 h1).1, by rw [← List.tail_drop, h]; rfl⟩
theorem slotsR_pat {x : Lt} (h : (decide (x.kind ≠ 1) && decide (x.kind ≠ 2)) = false) : slotsR x = [x.pat.a, x.pat.b, x.pat.c] := by
  rw [slotsR, if_pos]
  by_cases h1 : x.kind = 1 <;> by_cases h2 : x.kind = 2 <;> simp_all
theorem slotsR_ab {x : Lt} (h : (decide (x.kind ≠ 1) && decide (x.kind ≠ 2)) = true) : slotsR x = [x.a, x.b] := by
  rw [slotsR, if_neg]
  simp only [Bool.and_eq_true, decide_eq_true_eq] at h
  simp [h.1, h.2]
theorem piter_ (r : Rule) (hok : okR r) : AIter PR (.fn (.func 69) [] [.ip (eRule r)]) ((placesL r).map encP) := by
  have hbl := hok.2.1
  intro y J Jx hy hmono h hJ0
  generalize hxs : (placesL r).map encP = xs at hy ⊢
  refine AFn_of Go.Proofs.Tryz.func69 rfl (by rfl) (by rw [Go.Proofs.Tryz.ntmps69]; simp) ?_
  rw [Go.Proofs.Tryz.ntmps69]
  refine AW_seq ?_
  refine AW_seq ?_
  refine AW_region rfl ?_
  refine AL_p rfl rfl rfl (v := .ip (List.drop 0 (eRule r))) (PO_fieldAddr rfl f46_0 rfl) ?_
  refine AL_p rfl rfl rfl (v := .agg (ePat r.head)) (PO_load rfl ty43 rfl rfl) ?_
  refine AL_p rfl rfl rfl (v := .lit (.int .i64 0)) (PO_move rfl rfl) ?_
  refine AL_keep [(0, y), (1, .ip (eRule r)), (11, .agg (ePat r.head)), (12, .lit (.int .i64 0))] ⟨rfl, rfl, rfl, rfl, trivial⟩ ?_
  refine AL_nil ?_
  refine AW_block ?_
  refine AW_iter (fun (z_ : Nat × Heap) => match z_ with | (k, hp) => [(12, .lit (.int .i64 ((k : Nat) : Int))), (0, y), (1, .ip (eRule r)), (11, .agg (ePat r.head))]) (fun (z_ : Nat × Heap) => match z_ with | (k, hp) => hp) (fun (z_ : Nat × Heap) => match z_ with | (k, hp) => k ≤ 3 ∧ k ≤ xs.length ∧ J k hp ∧ xs.drop k = (((headP r.head).drop k) ++ bodyP 0 r.body).map encP) (fun (z_ : Nat × Heap) => match z_ with | (k, hp) => 3 - k) ((0, h)) ⟨rfl, rfl, rfl, rfl, trivial⟩ rfl (⟨by omega, by omega, hJ0, hxs.symm⟩) ?_
  rintro ⟨k, hp⟩ ⟨hk, hkx, hJk, hX⟩
  refine AW_seq ?_
  refine AW_region rfl ?_
  refine AL_p rfl rfl rfl (v := .lit (.bool (decide ((((k : Nat) : Int) : Int) < 3)))) (PO_int rfl rfl rfl rfl trivial) ?_
  refine AL_nil ?_
  refine AW_seq ?_
  refine AW_cond (decide ((((k : Nat) : Int) : Int) < 3)) rfl (fun hc1 => ?_) (fun hc1 => ?_)
  · skip
    replace hc1 := of_decide_eq_true hc1
    have hk3 : k < 3 := by omega
    rw [headP_drop hk3, List.cons_append, List.map_cons] at hX
    have hnx := next_of hX
    refine AW_skip ?_
    refine AW_seq ?_
    refine AW_block ?_
    refine AW_seq ?_
    refine AW_region rfl ?_
    refine AL_p rfl rfl rfl (v := .agg (eSlot (patAt r.head k))) (PO_index_arr (i := ((k : Nat) : Int)) rfl un43 ty41 rfl rfl (by omega) (by omega) (by rcases k with _ | _ | _ | k <;> first | rfl | omega)) ?_
    refine AL_als rfl rfl rfl rfl rfl rfl al41 rfl rfl rfl rfl rfl ?_
    refine AL_keep [(12, .lit (.int .i64 ((k : Nat) : Int))), (0, y), (1, .ip (eRule r)), (11, .agg (ePat r.head)), (4, .ip (eSlot (patAt r.head k)))] ⟨rfl, rfl, rfl, rfl, rfl, trivial⟩ ?_
    refine AL_nil ?_
    refine AW_seq ?_
    refine AW_region rfl ?_
    refine AL_p rfl rfl rfl (v := y) (PO_move rfl rfl) ?_
    refine AL_p rfl rfl rfl (v := .agg (eSlot (patAt r.head k))) (PO_load rfl ty41 rfl rfl) ?_
    refine AL_m rfl rfl rfl (MO_call rfl rfl rfl (hy k _ hp hnx.1 hJk)) ?_
    rintro _ h1 (⟨rfl, hJ1⟩ | ⟨rfl, hJ1⟩)
    · skip
      refine AL_p rfl rfl rfl (v := .lit (.bool false)) (PO_not (b := true) rfl rfl) ?_
      refine AL_keep [(12, .lit (.int .i64 ((k : Nat) : Int))), (0, y), (1, .ip (eRule r)), (11, .agg (ePat r.head)), (4, .ip (eSlot (patAt r.head k))), (18, .lit (.bool false))] ⟨rfl, rfl, rfl, rfl, rfl, rfl, trivial⟩ ?_
      refine AL_nil ?_
      refine AW_cond false rfl (fun e => by cases e) (fun _ => ?_)
      refine AW_skip ?_
      refine AW_region rfl ?_
      refine AL_p rfl rfl rfl (v := .lit (.int .i64 ((k + 1 : Nat) : Int))) (PO_inc rfl rfl rfl (by first | omega | (simp_all <;> omega))) ?_
      refine AL_p rfl rfl rfl (v := .lit (.int .i64 ((k + 1 : Nat) : Int))) (PO_move rfl rfl) ?_
      refine AL_keep [(12, .lit (.int .i64 ((k + 1 : Nat) : Int))), (0, y), (1, .ip (eRule r)), (11, .agg (ePat r.head)), (4, .ip (eSlot (patAt r.head k))), (18, .lit (.bool false))] ⟨rfl, rfl, rfl, rfl, rfl, rfl, trivial⟩ ?_
      refine AL_nil ?_
      exact ⟨(k + 1, h1), ⟨by omega, by omega, hJ1, hnx.2.2⟩, by simp only []; omega, ⟨rfl, ⟨rfl, rfl, rfl, rfl, trivial⟩, rfl, rfl, rfl⟩⟩
    · skip
      refine AL_p rfl rfl rfl (v := .lit (.bool true)) (PO_not (b := false) rfl rfl) ?_
      refine AL_keep [(12, .lit (.int .i64 ((k : Nat) : Int))), (0, y), (1, .ip (eRule r)), (11, .agg (ePat r.head)), (4, .ip (eSlot (patAt r.head k))), (18, .lit (.bool true))] ⟨rfl, rfl, rfl, rfl, rfl, rfl, trivial⟩ ?_
      refine AL_nil ?_
      refine AW_cond true rfl (fun _ => ?_) (fun e => by cases e)
      refine AW_ret ?_
      -- ret 0
      exact ret_R (.inl rfl) rfl ⟨rfl, .inr ⟨k + 1, by omega, hJ1⟩⟩
  · skip
    replace hc1 := of_decide_eq_false hc1
    have hX0 : xs.drop k = (bodyP ((0 : Nat) : Int) (r.body.drop 0)).map encP := by rw [hX, show k = 3 by omega]; rfl
    refine AW_exit ?_
    refine AW_seq ?_
    refine AW_region rfl ?_
    refine AL_p rfl rfl rfl (v := .ip (List.drop 12 (eRule r))) (PO_fieldAddr rfl f46_1 rfl) ?_
    refine AL_p rfl rfl rfl (v := .sl .any 21 (r.body.map eLit)) (PO_load rfl ty44 rfl rfl) ?_
    refine AL_p rfl rfl rfl (v := .lit (.int .i64 (r.body.length : Int))) (PO_lenM rfl un44 rfl) ?_
    refine AL_p rfl rfl rfl (v := .lit (.int .i64 0)) (PO_move rfl rfl) ?_
    refine AL_keep [(12, .lit (.int .i64 ((k : Nat) : Int))), (0, y), (1, .ip (eRule r)), (11, .agg (ePat r.head)), (21, .sl .any 21 (r.body.map eLit)), (22, .lit (.int .i64 (r.body.length : Int))), (23, .lit (.int .i64 0))] ⟨rfl, rfl, rfl, rfl, rfl, rfl, rfl, trivial⟩ ?_
    refine AL_nil ?_
    refine AW_block ?_
    refine AW_iter (fun (z_ : Nat × Nat × Heap) => match z_ with | (i, q, hp2) => [(23, .lit (.int .i64 ((i : Nat) : Int))), (0, y), (21, .sl .any 21 (r.body.map eLit)), (22, .lit (.int .i64 (r.body.length : Int)))]) (fun (z_ : Nat × Nat × Heap) => match z_ with | (i, q, hp2) => hp2) (fun (z_ : Nat × Nat × Heap) => match z_ with | (i, q, hp2) => i ≤ r.body.length ∧ q ≤ xs.length ∧ J q hp2 ∧ xs.drop q = (bodyP ((i : Nat) : Int) (r.body.drop i)).map encP) (fun (z_ : Nat × Nat × Heap) => match z_ with | (i, q, hp2) => r.body.length - i) ((0, k, hp)) ⟨rfl, rfl, rfl, rfl, trivial⟩ rfl (⟨by omega, by omega, hJk, hX0⟩) ?_
    rintro ⟨i, q, hp2⟩ ⟨hi, hq, hJq, hX2⟩
    refine AW_seq ?_
    refine AW_region rfl ?_
    refine AL_p rfl rfl rfl (v := .lit (.bool (decide ((((i : Nat) : Int) : Int) < (r.body.length : Int))))) (PO_int rfl rfl rfl rfl trivial) ?_
    refine AL_nil ?_
    refine AW_seq ?_
    refine AW_cond (decide ((((i : Nat) : Int) : Int) < (r.body.length : Int))) rfl (fun hc6 => ?_) (fun hc6 => ?_)
    · skip
      replace hc6 := of_decide_eq_true hc6
      obtain ⟨x, hrx, hdx, hmx⟩ := drop_at (l := r.body) (i := i) (by omega)
      rw [hdx, bodyP] at hX2
      have hslen := slotsR_len x
      refine AW_skip ?_
      refine AW_seq ?_
      refine AW_block ?_
      refine AW_seq ?_
      refine AW_region rfl ?_
      refine AL_p rfl rfl rfl (v := .lit (.int .i64 ((i : Nat) : Int))) (PO_move rfl rfl) ?_
      refine AL_p rfl rfl rfl (v := .ip (eLit x)) (PO_indexAddr rfl un44 ty68 rfl rfl (by first | decide | omega) (mget hrx)) ?_
      refine AL_p rfl rfl rfl (v := .agg (eLit x)) (PO_load rfl ty68 rfl rfl) ?_
      refine AL_alloc rfl rfl rfl rfl z68 fun b hb => ?_
      refine AL_p rfl rfl rfl (v := .lit (.int .i64 ((i : Nat) : Int))) (PO_assign rfl rfl) ?_
      refine AL_storeF (v := .agg (eLit x)) rfl rfl rfl ty68 rfl rfl hb rfl rfl rfl ?_
      refine AL_keep [(23, .lit (.int .i64 ((i : Nat) : Int))), (0, y), (21, .sl .any 21 (r.body.map eLit)), (22, .lit (.int .i64 (r.body.length : Int))), (6, .ip (eLit x)), (5, .lit (.int .i64 ((i : Nat) : Int)))] ⟨rfl, rfl, rfl, rfl, rfl, rfl, trivial⟩ ?_
      refine AL_nil ?_
      refine AW_seq ?_
      refine AW_region rfl ?_
      refine AL_p rfl rfl rfl (v := .ip (ePat x.pat)) (PO_weak (PO_fieldAddr rfl f68_1 rfl) (fun _ _ => VR.ip_take 12)) ?_
      refine AL_p rfl rfl rfl (v := .sl .full 4 ([x.pat.a, x.pat.b, x.pat.c].map eSlot)) (PO_slice_arr (cs := ePat x.pat) rfl un43 ty41 rfl rfl) ?_
      refine AL_p rfl rfl rfl (v := .sl .full 4 ([x.pat.a, x.pat.b, x.pat.c].map eSlot)) (PO_assign rfl rfl) ?_
      refine AL_keep [(23, .lit (.int .i64 ((i : Nat) : Int))), (0, y), (21, .sl .any 21 (r.body.map eLit)), (22, .lit (.int .i64 (r.body.length : Int))), (6, .ip (eLit x)), (5, .lit (.int .i64 ((i : Nat) : Int))), (7, .sl .full 4 ([x.pat.a, x.pat.b, x.pat.c].map eSlot))] ⟨rfl, rfl, rfl, rfl, rfl, rfl, rfl, trivial⟩ ?_
      refine AL_nil ?_
      refine AW_join (α := Unit) (fun _ => [(7, .sl .any 4 ((slotsR x).map eSlot)), (23, .lit (.int .i64 ((i : Nat) : Int))), (0, y), (21, .sl .any 21 (r.body.map eLit)), (22, .lit (.int .i64 (r.body.length : Int))), (5, .lit (.int .i64 ((i : Nat) : Int)))]) (fun _ => hp2) (fun _ => True) ?_ ?_
      · skip
        refine AW_seq ?_
        refine AW_region rfl ?_
        refine AL_p rfl rfl rfl (v := .ip (List.drop 0 (eLit x))) (PO_fieldAddr rfl f68_0 rfl) ?_
        refine AL_p rfl rfl rfl (v := .lit (.int .i64 x.kind)) (PO_load rfl ty66 rfl rfl) ?_
        refine AL_p rfl rfl rfl (v := .lit (.bool (decide ((x.kind : Int) ≠ 1)))) (PO_int rfl rfl rfl rfl trivial) ?_
        refine AL_p rfl rfl rfl (v := .lit (.bool (decide ((x.kind : Int) ≠ 1)))) (PO_move rfl rfl) ?_
        refine AL_join 4 [(37, .lit (.bool ((decide ((x.kind : Int) ≠ 1)) && (decide ((x.kind : Int) ≠ 2))))), (23, .lit (.int .i64 ((i : Nat) : Int))), (0, y), (21, .sl .any 21 (r.body.map eLit)), (22, .lit (.int .i64 (r.body.length : Int))), (6, .ip (eLit x)), (5, .lit (.int .i64 ((i : Nat) : Int))), (7, .sl .full 4 ([x.pat.a, x.pat.b, x.pat.c].map eSlot)), (30, .ip (List.drop 0 (eLit x))), (31, .lit (.int .i64 x.kind)), (32, .lit (.bool (decide ((x.kind : Int) ≠ 1)))), (33, .lit (.bool (decide ((x.kind : Int) ≠ 1))))] ?_ ?_
        · refine AL_split 33 (decide ((x.kind : Int) ≠ 1)) rfl (fun hg33 => ?_) (fun hg33 => ?_)
          · skip
            refine AL_pg rfl rfl rfl rfl rfl rfl (v := .ip (List.drop 0 (eLit x))) (PO_fieldAddr rfl f68_0 rfl) ?_
            refine AL_pg rfl rfl rfl rfl rfl rfl (v := .lit (.int .i64 x.kind)) (PO_load rfl ty66 rfl rfl) ?_
            refine AL_pg rfl rfl rfl rfl rfl rfl (v := .lit (.bool (decide ((x.kind : Int) ≠ 2)))) (PO_int rfl rfl rfl rfl trivial) ?_
            refine AL_p rfl rfl rfl (v := .lit (.bool (decide ((x.kind : Int) ≠ 2)))) (PO_pick rfl rfl rfl) ?_
            refine AL_say (k := 37) (.lit (.bool ((decide ((x.kind : Int) ≠ 1)) && (decide ((x.kind : Int) ≠ 2))))) rfl (by rw [hg33]; rfl) ?_
            refine AL_say (k := 33) (.lit (.bool (decide ((x.kind : Int) ≠ 1)))) rfl (by rw [hg33]) ?_
            exact AL_nil ⟨rfl, ⟨rfl, ⟨rfl, rfl, rfl, rfl, rfl, rfl, rfl, rfl, rfl, rfl, rfl, rfl, trivial⟩, rfl, rfl, rfl⟩⟩
          · skip
            refine AL_s0 rfl rfl rfl rfl rfl rfl rfl ?_
            refine AL_s0 rfl rfl rfl rfl rfl rfl rfl ?_
            refine AL_s0 rfl rfl rfl rfl rfl rfl rfl ?_
            refine AL_p rfl rfl rfl (v := .lit (.bool false)) (PO_pick rfl rfl rfl) ?_
            refine AL_say (k := 37) (.lit (.bool ((decide ((x.kind : Int) ≠ 1)) && (decide ((x.kind : Int) ≠ 2))))) rfl (by rw [hg33]; rfl) ?_
            refine AL_say (k := 33) (.lit (.bool (decide ((x.kind : Int) ≠ 1)))) rfl (by rw [hg33]) ?_
            exact AL_nil ⟨rfl, ⟨rfl, ⟨rfl, rfl, rfl, rfl, rfl, rfl, rfl, rfl, rfl, rfl, rfl, rfl, trivial⟩, rfl, rfl, rfl⟩⟩
        · skip
          refine AL_keep [(37, .lit (.bool ((decide ((x.kind : Int) ≠ 1)) && (decide ((x.kind : Int) ≠ 2))))), (23, .lit (.int .i64 ((i : Nat) : Int))), (0, y), (21, .sl .any 21 (r.body.map eLit)), (22, .lit (.int .i64 (r.body.length : Int))), (6, .ip (eLit x)), (5, .lit (.int .i64 ((i : Nat) : Int))), (7, .sl .full 4 ([x.pat.a, x.pat.b, x.pat.c].map eSlot))] ⟨rfl, rfl, rfl, rfl, rfl, rfl, rfl, rfl, trivial⟩ ?_
          refine AL_nil ?_
          refine AW_cond ((decide ((x.kind : Int) ≠ 1)) && (decide ((x.kind : Int) ≠ 2))) rfl (fun hc9 => ?_) (fun hc9 => ?_)
          · skip
            have hsl := slotsR_ab hc9
            refine AW_region rfl ?_
            refine AL_p rfl rfl rfl (v := .ip (List.drop 13 (eLit x))) (PO_fieldAddr rfl f68_2 rfl) ?_
            refine AL_p rfl rfl rfl (v := .agg (eSlot x.a)) (PO_load rfl ty41 rfl rfl) ?_
            refine AL_p rfl rfl rfl (v := .ip (List.drop 17 (eLit x))) (PO_fieldAddr rfl f68_3 rfl) ?_
            refine AL_p rfl rfl rfl (v := .agg (eSlot x.b)) (PO_load rfl ty41 rfl rfl) ?_
            refine AL_p rfl rfl rfl (v := .sl .full 4 ([x.a, x.b].map eSlot)) (PO_buildSlice (n := 2) (S := 4) (rs := eSlot x.a ++ (eSlot x.b ++ [])) rfl un106 ty41 z41 rfl rfl rfl (by decide) rfl (by decide)) ?_
            refine AL_p rfl rfl rfl (v := .sl .any 4 ((slotsR x).map eSlot)) (PO_any (PO_assign rfl rfl) (by rw [hsl])) ?_
            refine AL_keep [(23, .lit (.int .i64 ((i : Nat) : Int))), (0, y), (21, .sl .any 21 (r.body.map eLit)), (22, .lit (.int .i64 (r.body.length : Int))), (6, .ip (eLit x)), (5, .lit (.int .i64 ((i : Nat) : Int))), (7, .sl .any 4 ((slotsR x).map eSlot))] ⟨rfl, rfl, rfl, rfl, rfl, rfl, rfl, trivial⟩ ?_
            refine AL_nil ?_
            exact ⟨(), trivial, ⟨rfl, ⟨rfl, rfl, rfl, rfl, rfl, rfl, trivial⟩, rfl, rfl, rfl⟩⟩
          · skip
            have hsl := slotsR_pat hc9
            refine AW_any (k := 7) rfl ?_
            refine AW_say (k := 7) (.sl .any 4 ((slotsR x).map eSlot)) rfl (by rw [hsl]) ?_
            refine AW_skip ?_
            exact ⟨(), trivial, ⟨rfl, ⟨rfl, rfl, rfl, rfl, rfl, rfl, trivial⟩, rfl, rfl, rfl⟩⟩
      · rintro _ -
        refine AW_seq ?_
        refine AW_region rfl ?_
        refine AL_p rfl rfl rfl (v := .sl .any 4 ((slotsR x).map eSlot)) (PO_move rfl rfl) ?_
        refine AL_p rfl rfl rfl (v := .lit (.int .i64 ((slotsR x).length : Int))) (PO_lenM rfl un106 rfl) ?_
        refine AL_p rfl rfl rfl (v := .lit (.int .i64 0)) (PO_move rfl rfl) ?_
        refine AL_nil ?_
        refine AW_block ?_
        refine AW_iter (fun (z_ : Nat × Nat × Heap) => match z_ with | (m, q2, hp3) => [(45, .lit (.int .i64 ((m : Nat) : Int))), (23, .lit (.int .i64 ((i : Nat) : Int))), (0, y), (21, .sl .any 21 (r.body.map eLit)), (22, .lit (.int .i64 (r.body.length : Int))), (5, .lit (.int .i64 ((i : Nat) : Int))), (43, .sl .any 4 ((slotsR x).map eSlot)), (44, .lit (.int .i64 ((slotsR x).length : Int)))]) (fun (z_ : Nat × Nat × Heap) => match z_ with | (m, q2, hp3) => hp3) (fun (z_ : Nat × Nat × Heap) => match z_ with | (m, q2, hp3) => m ≤ (slotsR x).length ∧ q2 ≤ xs.length ∧ J q2 hp3 ∧ xs.drop q2 = ((((slotsR x).drop m).map fun s => (((i : Nat) : Int), s)) ++ bodyP (((i : Nat) : Int) + 1) (r.body.drop (i + 1))).map encP) (fun (z_ : Nat × Nat × Heap) => match z_ with | (m, q2, hp3) => (slotsR x).length - m) ((0, q, hp2)) ⟨rfl, rfl, rfl, rfl, rfl, rfl, rfl, rfl, trivial⟩ rfl (⟨by omega, by omega, hJq, hX2⟩) ?_
        rintro ⟨m, q2, hp3⟩ ⟨hm, hq2, hJ3, hX3⟩
        refine AW_seq ?_
        refine AW_region rfl ?_
        refine AL_p rfl rfl rfl (v := .lit (.bool (decide ((((m : Nat) : Int) : Int) < ((slotsR x).length : Int))))) (PO_int rfl rfl rfl rfl trivial) ?_
        refine AL_nil ?_
        refine AW_seq ?_
        refine AW_cond (decide ((((m : Nat) : Int) : Int) < ((slotsR x).length : Int))) rfl (fun hc12 => ?_) (fun hc12 => ?_)
        · skip
          replace hc12 := of_decide_eq_true hc12
          obtain ⟨y_, hry, hdy, hmy⟩ := drop_at (l := slotsR x) (i := m) (by omega)
          rw [hdy, List.map_cons, List.cons_append, List.map_cons] at hX3
          have hnx := next_of hX3
          refine AW_skip ?_
          refine AW_seq ?_
          refine AW_block ?_
          refine AW_seq ?_
          refine AW_region rfl ?_
          refine AL_p rfl rfl rfl (v := .ip (eSlot y_)) (PO_indexAddr rfl un106 ty41 rfl rfl (by first | decide | omega) (mget hry)) ?_
          refine AL_p rfl rfl rfl (v := .agg (eSlot y_)) (PO_load rfl ty41 rfl rfl) ?_
          refine AL_als rfl rfl rfl rfl rfl rfl al41 rfl rfl rfl rfl rfl ?_
          refine AL_keep [(45, .lit (.int .i64 ((m : Nat) : Int))), (23, .lit (.int .i64 ((i : Nat) : Int))), (0, y), (21, .sl .any 21 (r.body.map eLit)), (22, .lit (.int .i64 (r.body.length : Int))), (5, .lit (.int .i64 ((i : Nat) : Int))), (43, .sl .any 4 ((slotsR x).map eSlot)), (44, .lit (.int .i64 ((slotsR x).length : Int))), (9, .ip (eSlot y_))] ⟨rfl, rfl, rfl, rfl, rfl, rfl, rfl, rfl, rfl, trivial⟩ ?_
          refine AL_nil ?_
          refine AW_seq ?_
          refine AW_region rfl ?_
          refine AL_p rfl rfl rfl (v := y) (PO_move rfl rfl) ?_
          refine AL_p rfl rfl rfl (v := .lit (.int .i64 ((i : Nat) : Int))) (PO_move rfl rfl) ?_
          refine AL_p rfl rfl rfl (v := .agg (eSlot y_)) (PO_load rfl ty41 rfl rfl) ?_
          refine AL_m rfl rfl rfl (MO_call rfl rfl rfl (hy q2 _ hp3 hnx.1 hJ3)) ?_
          rintro _ h1 (⟨rfl, hJ1⟩ | ⟨rfl, hJ1⟩)
          · skip
            refine AL_p rfl rfl rfl (v := .lit (.bool false)) (PO_not (b := true) rfl rfl) ?_
            refine AL_keep [(45, .lit (.int .i64 ((m : Nat) : Int))), (23, .lit (.int .i64 ((i : Nat) : Int))), (0, y), (21, .sl .any 21 (r.body.map eLit)), (22, .lit (.int .i64 (r.body.length : Int))), (5, .lit (.int .i64 ((i : Nat) : Int))), (43, .sl .any 4 ((slotsR x).map eSlot)), (44, .lit (.int .i64 ((slotsR x).length : Int))), (9, .ip (eSlot y_)), (53, .lit (.bool false))] ⟨rfl, rfl, rfl, rfl, rfl, rfl, rfl, rfl, rfl, rfl, trivial⟩ ?_
            refine AL_nil ?_
            refine AW_cond false rfl (fun e => by cases e) (fun _ => ?_)
            refine AW_skip ?_
            refine AW_region rfl ?_
            refine AL_p rfl rfl rfl (v := .lit (.int .i64 ((m + 1 : Nat) : Int))) (PO_inc rfl rfl rfl (by first | omega | (simp_all <;> omega))) ?_
            refine AL_p rfl rfl rfl (v := .lit (.int .i64 ((m + 1 : Nat) : Int))) (PO_move rfl rfl) ?_
            refine AL_keep [(45, .lit (.int .i64 ((m + 1 : Nat) : Int))), (23, .lit (.int .i64 ((i : Nat) : Int))), (0, y), (21, .sl .any 21 (r.body.map eLit)), (22, .lit (.int .i64 (r.body.length : Int))), (5, .lit (.int .i64 ((i : Nat) : Int))), (43, .sl .any 4 ((slotsR x).map eSlot)), (44, .lit (.int .i64 ((slotsR x).length : Int))), (9, .ip (eSlot y_)), (53, .lit (.bool false))] ⟨rfl, rfl, rfl, rfl, rfl, rfl, rfl, rfl, rfl, rfl, trivial⟩ ?_
            refine AL_nil ?_
            exact ⟨(m + 1, q2 + 1, h1), ⟨by omega, by omega, hJ1, hnx.2.2⟩, by simp only []; omega, ⟨rfl, ⟨rfl, rfl, rfl, rfl, rfl, rfl, rfl, rfl, trivial⟩, rfl, rfl, rfl⟩⟩
          · skip
            refine AL_p rfl rfl rfl (v := .lit (.bool true)) (PO_not (b := false) rfl rfl) ?_
            refine AL_keep [(45, .lit (.int .i64 ((m : Nat) : Int))), (23, .lit (.int .i64 ((i : Nat) : Int))), (0, y), (21, .sl .any 21 (r.body.map eLit)), (22, .lit (.int .i64 (r.body.length : Int))), (5, .lit (.int .i64 ((i : Nat) : Int))), (43, .sl .any 4 ((slotsR x).map eSlot)), (44, .lit (.int .i64 ((slotsR x).length : Int))), (9, .ip (eSlot y_)), (53, .lit (.bool true))] ⟨rfl, rfl, rfl, rfl, rfl, rfl, rfl, rfl, rfl, rfl, trivial⟩ ?_
            refine AL_nil ?_
            refine AW_cond true rfl (fun _ => ?_) (fun e => by cases e)
            refine AW_ret ?_
            -- ret 1
            exact ret_R (.inl rfl) rfl ⟨rfl, .inr ⟨q2 + 1, by omega, hJ1⟩⟩
        · skip
          replace hc12 := of_decide_eq_false hc12
          rw [drop_end (l := slotsR x) (i := m) (by omega), List.map_nil, List.nil_append] at hX3
          refine AW_exit ?_
          refine AW_region rfl ?_
          refine AL_p rfl rfl rfl (v := .lit (.int .i64 ((i + 1 : Nat) : Int))) (PO_inc rfl rfl rfl (by first | omega | (simp_all <;> omega))) ?_
          refine AL_p rfl rfl rfl (v := .lit (.int .i64 ((i + 1 : Nat) : Int))) (PO_move rfl rfl) ?_
          refine AL_keep [(45, .lit (.int .i64 ((m : Nat) : Int))), (23, .lit (.int .i64 ((i + 1 : Nat) : Int))), (0, y), (21, .sl .any 21 (r.body.map eLit)), (22, .lit (.int .i64 (r.body.length : Int))), (5, .lit (.int .i64 ((i : Nat) : Int))), (43, .sl .any 4 ((slotsR x).map eSlot)), (44, .lit (.int .i64 ((slotsR x).length : Int)))] ⟨rfl, rfl, rfl, rfl, rfl, rfl, rfl, rfl, trivial⟩ ?_
          refine AL_nil ?_
          exact ⟨(i + 1, q2, hp3), ⟨by omega, by omega, hJ3, hX3⟩, by simp only []; omega, ⟨rfl, ⟨rfl, rfl, rfl, rfl, trivial⟩, rfl, rfl, rfl⟩⟩
    · skip
      replace hc6 := of_decide_eq_false hc6
      rw [drop_end (l := r.body) (i := i) (by omega), bodyP] at hX2
      refine AW_exit ?_
      -- ret 2
      exact ret_R (.inr rfl) rfl ⟨rfl, .inl (by rw [len_done hq hX2]; exact hJq)⟩
end Go.AM.Tryd
end
section
set_option maxRecDepth 100000
set_option maxHeartbeats 4000000
set_option linter.unusedVariables false
set_option linter.unusedSimpArgs false
namespace Go.AM.Tryd
open Go Go.AM Go.AM.D
structure One where
  is : Bool
def eOne (o : One) : List AV := [.lit (.bool o.is)]
def litAt (r : Rule) (i : Int) : Lt := (r.body[i.toNat]?).getD ⟨0, p0, s0, s0⟩
def plOf (r : Rule) (i : Nat) : Int × Slot := (placesL r).getD i (0, s0)
def condP (r : Rule) (p : Int × Slot) : Bool := (decide (p.1 ≥ 0) && decide ((litAt r p.1).kind = 1)) && decide (p.2.var ≠ ⟨#[]⟩)
def givP (r : Rule) (i : Nat) : List ByteArray := (((placesL r).take i).filter (condP r)).map (·.2.var)
def checkUL (g : List ByteArray) : List (Int × Slot) → Int
  | [] => 0
  | p :: l => if (decide (p.2.var ≠ ⟨#[]⟩) && !inF p.2.var g) = true then 5 else checkUL g l
def ruleU (r : Rule) : Int := if (!mayU r) = true then 2 else checkUL (givP r (placesL r).length) (placesL r)
theorem bodyP_ok : ∀ (b : List Lt) (i : Int), ∀ p ∈ bodyP i b, i ≤ p.1 ∧ (p.1 - i).toNat < b.length := by
  intro b
  induction b with
  | nil => intro i p hp; cases hp
  | cons x b ih =>
    intro i p hp
    rw [bodyP, List.mem_append] at hp
    rcases hp with hp | hp
    · rw [List.mem_map] at hp; obtain ⟨s, -, rfl⟩ := hp
      simp only [List.length_cons]; omega
    · have := ih (i + 1) p hp
      simp only [List.length_cons]; omega
theorem placesL_ok {r : Rule} {p : Int × Slot} (hp : p ∈ placesL r) (h : 0 ≤ p.1) : p.1.toNat < r.body.length := by
  rw [placesL, List.mem_append] at hp
  rcases hp with hp | hp
  · simp only [headP, List.mem_cons, List.not_mem_nil, or_false] at hp
    rcases hp with rfl | rfl | rfl <;> simp at h
  · have := bodyP_ok _ _ p hp; simpa using this.2
theorem plOf_mem {r : Rule} {i : Nat} {x : List AV} (h : ((placesL r).map encP)[i]? = some x) : (placesL r)[i]? = some (plOf r i) ∧ x = encP (plOf r i) ∧ plOf r i ∈ placesL r := by
  rw [List.getElem?_map] at h
  cases hq : (placesL r)[i]? with
  | none => rw [hq] at h; cases h
  | some p =>
    rw [hq] at h
    have e : plOf r i = p := by rw [plOf, List.getD_eq_getElem?_getD, hq]; rfl
    rw [e]
    exact ⟨rfl, (Option.some.inj h).symm, List.mem_of_getElem? hq⟩
theorem litAt_get {r : Rule} {i : Int} (h0 : 0 ≤ i) (h : i.toNat < r.body.length) : (r.body.map eLit)[i.toNat]? = some (eLit (litAt r i)) := by
  rw [litAt, List.getElem?_map, List.getElem?_eq_getElem h]; rfl
theorem givP_succ {r : Rule} {i : Nat} (h : (placesL r)[i]? = some (plOf r i)) : givP r (i + 1) = givP r i ++ (if condP r (plOf r i) = true then [(plOf r i).2.var] else []) := by
  rw [givP, List.take_add_one, h, Option.toList_some, List.filter_append, List.map_append, ← givP]
  congr 1
  cases hc : condP r (plOf r i) <;> simp [hc]
def MapIs (g : List ByteArray) (es : List (List Value × AV)) : Prop := (∀ p ∈ es, ∃ q, p.1 = [Value.string q]) ∧ ∀ s, aget [.string s] es = if inF s g = true then some (AV.agg (eOne ⟨true⟩)) else none
theorem inF_snoc (s t : ByteArray) : ∀ g : List ByteArray, inF s (g ++ [t]) = (inF s g || decide (t = s)) := by
  intro g
  induction g with
  | nil => simp only [List.nil_append, inF]; by_cases e : t = s <;> simp [e]
  | cons x g ih => simp only [List.cons_append, inF, ih]; by_cases e : x = s <;> simp [e]
theorem MapIs.nil : MapIs [] [] := ⟨by simp, fun s => by simp [aget, inF]⟩
theorem MapIs.put {g : List ByteArray} {es : List (List Value × AV)} (h : MapIs g es) (t : ByteArray) : MapIs (g ++ [t]) (aput [.string t] (.agg (eOne ⟨true⟩)) es) := by
  refine ⟨aput_keys h.1, fun s => ?_⟩
  rw [aget_aput_str h.1, h.2 s, inF_snoc]
  by_cases e : s = t
  · subst e; simp
  · have e' : ¬ t = s := fun h => e h.symm
    simp [e, e']
theorem checkUL_at {g : List ByteArray} {l : List (Int × Slot)} {i : Nat} {p : Int × Slot} (h : l[i]? = some p) : checkUL g (l.drop i) = if (decide (p.2.var ≠ ⟨#[]⟩) && !inF p.2.var g) = true then 5 else checkUL g (l.drop (i + 1)) := by
  obtain ⟨hi, rfl⟩ := List.getElem?_eq_some_iff.1 h
  rw [List.drop_eq_getElem_cons hi]; rfl
theorem urule_ (r : Rule) (hok : okR r) : PFn PR (.fn (.func 28) [] []) [.agg (eRule r)] (.lit (.int .i64 (ruleU r))) := by
  refine PFn_ofG Go.Proofs.Tryz.func28 rfl (by rfl) Go.Proofs.Tryz.ntmps28 rfl (by simp) fun h => ?_
  refine AW_x [] [] ?_
  refine AL_alloc rfl rfl rfl rfl z29 fun b hb => ?_
  have hle00 : h.le (h.upd b (some (.row zs29))) := Heap.le_upd (.refl h) hb _
  refine AL_nil ?_
  refine ⟨T46, _, (may47_ _ (by first | assumption)), fun hc1 => ?_, fun hc1 => ?_⟩
  · skip
    have hw : ruleU r = 2 := by rw [ruleU, if_pos hc1]
    refine AL_store (b := b) (off := 0) (cs := zs29) (v := .lit (.int .i64 2)) rfl rfl rfl ty29 rfl rfl (Heap.upd_same _ _ _) rfl rfl (by simp) ?_
    refine AL_nil ?_
    refine AW_ret ?_
    exact ret_G (.inl rfl) (Results.cell rfl ty29 rfl (Heap.upd_same _ _ _) rfl) (by rw [hw]) (Heap.le_upd hle00 hb _) (by simp)
  · skip
    have hw : ruleU r = checkUL (givP r (placesL r).length) (placesL r) := by rw [ruleU, if_neg (by rw [hc1]; simp)]
    refine AL_makeMap ks9 false rfl rfl rfl rfl fun bm hbm0 => ?_
    have hbm : h bm = none := Heap.none_of hle00 hbm0
    have hne : bm ≠ b := fun e => by rw [e, Heap.upd_same] at hbm0; cases hbm0
    have hle0 : h.le ((h.upd b (some (.row zs29))).upd bm (some (.map ks9 false []))) := Heap.le_upd hle00 hbm _
    have hrow0 : ((h.upd b (some (.row zs29))).upd bm (some (.map ks9 false []))) b = (some (.row [.lit (.int .i64 0)])) := (Heap.upd_other _ hne.symm _).trans (Heap.upd_same _ _ _)
    have hmap0 : ((h.upd b (some (.row zs29))).upd bm (some (.map ks9 false []))) bm = (some (.map ks9 false [])) := Heap.upd_same _ _ _
    refine AL_als rfl rfl rfl rfl rfl rfl al108 rfl rfl rfl rfl rfl ?_
    refine AL_nil ?_
    refine ⟨T46, _, (places_ _), ?_⟩
    refine AW_rangeF (xs := ((placesL r).map encP)) rfl Go.Proofs.Tryz.func69 rfl (by rfl) (piter_ r hok) (fun i hp => h.le hp ∧ hp b = (some (.row [.lit (.int .i64 0)])) ∧ ∃ es, hp bm = (some (.map ks9 false es)) ∧ MapIs (givP r i) es) (fun _ _ _ => False) (fun i tm => True ∧ Looks tm [(4, .lit (.int .i64 ((plOf r i).1))), (5, .ip (eSlot (plOf r i).2)), (1, .ip (eRule r)), (2, .ptr b 0), (3, .ip [.mp bm])]) rfl (by intro x hx; simp only [List.mem_map] at hx; obtain ⟨p, -, rfl⟩ := hx; rfl) ⟨hle0, hrow0, [], hmap0, MapIs.nil⟩ ?_ ?_ ?_ ?_ ?_ ?_
    · skip
      intro l_ hl i h1 h2 hJ hst
      obtain ⟨h3, h4, es, h5, h6⟩ := hJ
      exact ⟨Steady.le (Heap.none_of hle0 hl) h3 hst, hst.at h4 rfl, es, hst.at h5 rfl, h6⟩
    · skip
      intro l_ hl e i h1 h2 hJ hst
      exact hJ
    · intro l_ i x hr hx hJ
      obtain ⟨hp, rfl, hmem⟩ := plOf_mem hx
      refine AW_keep [(14, .lit (.int .i64 ((plOf r i).1))), (15, .agg (eSlot (plOf r i).2)), (0, .agg (eRule r)), (1, .ip (eRule r)), (2, .ptr b 0), (10, .lit (.bool (!(mayU r)))), (3, .ip [.mp bm]), (13, .fn (.func 69) [] [.ip (eRule r)])] ⟨rfl, rfl, rfl, rfl, rfl, rfl, rfl, rfl, trivial⟩ ?_
      refine AW_x [] [] ?_
      refine AL_als rfl rfl rfl rfl rfl rfl al41 rfl rfl rfl rfl rfl ?_
      refine AL_nil ?_
      exact ⟨rfl, rfl, rfl, .refl _, hJ, trivial, ⟨rfl, rfl, rfl, rfl, rfl, trivial⟩⟩
    · intro l_ i x hr tm hx hJ hA
      obtain ⟨hA, hL⟩ := hA
      refine AW_ghost (Looks.sub hL).ghost ?_
      clear hL
      obtain ⟨hle, hrow, es, hmap, hes⟩ := hJ
      obtain ⟨hp, -, hmem⟩ := plOf_mem hx
      have hin := placesL_ok hmem
      have hgs := givP_succ hp
      refine AW_x [] [] ?_
      refine ⟨(decide (((litAt r (plOf r i).1).kind : Int) = 1) : Bool), fun hg18 => by
                have hge := of_decide_eq_true hg18
                exact ⟨F46_1, T44, L44, _, ⟨rfl, (by first | decide | omega), (litAt_get (by omega) (hin (by omega)))⟩, F68_0, T66, rfl⟩, _, fun hg27 => ⟨F41_0, T9, rfl⟩, fun hc7 => ?_, fun hc7 => ?_⟩
      · skip
        have hcond : condP r (plOf r i) = true := hc7
        refine ⟨T108, F41_0, T9, (.agg (eOne (⟨true⟩ : One))), PO_build rfl z112 pl112 rfl rfl, ?_⟩
        refine AL_mapUpdG (b := bm) (es := es) (v := .agg (eOne ⟨true⟩)) rfl rfl (.inl rfl) un108 key9 rfl hmap rfl rfl rfl rfl ?_
        refine AL_nil ?_
        first | exact ⟨⟨Heap.le_upd hle hbm _, (Heap.upd_other _ hne.symm _).trans hrow, _, Heap.upd_same _ _ _, by rw [hgs, if_pos hcond]; exact hes.put _⟩, rfl⟩ | exact ⟨⟨hle, hrow, es, hmap, by rw [hgs, if_neg (by rw [hcond]; simp), List.append_nil]; exact hes⟩, rfl⟩
      · skip
        have hcond : condP r (plOf r i) = false := hc7
        first | exact ⟨⟨Heap.le_upd hle hbm _, (Heap.upd_other _ hne.symm _).trans hrow, _, Heap.upd_same _ _ _, by rw [hgs, if_pos hcond]; exact hes.put _⟩, rfl⟩ | exact ⟨⟨hle, hrow, es, hmap, by rw [hgs, if_neg (by rw [hcond]; simp), List.append_nil]; exact hes⟩, rfl⟩
    · intro hd r_ hr0 hmark hJ
      obtain ⟨hle, hrow, es, hmap, hes⟩ := hJ
      rw [List.length_map] at hes
      have hrn := Heap.none_of hle0 hr0
      refine ⟨T46, _, (places_ _), ?_⟩
      refine AW_rangeF (xs := ((placesL r).map encP)) rfl Go.Proofs.Tryz.func69 rfl (by rfl) (piter_ r hok) (fun i hp => h.le hp ∧ hp b = (some (.row [.lit (.int .i64 0)])) ∧ hp bm = (some (.map ks9 false es)) ∧ ruleU r = checkUL (givP r (placesL r).length) ((placesL r).drop i)) (fun e _ hp => e = .ret ∧ h.le hp ∧ hp b = (some (.row [.lit (.int .i64 5)])) ∧ ruleU r = 5) (fun i tm => True ∧ Looks tm [(7, .ip (eSlot (plOf r i).2)), (2, .ptr b 0), (3, .ip [.mp bm])]) rfl (by intro x hx; simp only [List.mem_map] at hx; obtain ⟨p, -, rfl⟩ := hx; rfl) ⟨hle, hrow, hmap, hw⟩ ?_ ?_ ?_ ?_ ?_ ?_
      · skip
        intro l_ hl i h1 h2 hJ hst
        obtain ⟨h3, h4, h5, h6⟩ := hJ
        exact ⟨Steady.le (Heap.none_of hle hl) h3 hst, hst.at h4 rfl, hst.at h5 rfl, h6⟩
      · skip
        intro l_ hl e i h1 h2 hJ hst
        exact ⟨hJ.1, Steady.le (Heap.none_of hle hl) hJ.2.1 hst, hst.at hJ.2.2.1 rfl, hJ.2.2.2⟩
      · intro l_ i x hr hx hJ
        obtain ⟨hp, rfl, hmem⟩ := plOf_mem hx
        refine AW_keep [(38, .lit (.int .i64 ((plOf r i).1))), (39, .agg (eSlot (plOf r i).2)), (0, .agg (eRule r)), (1, .ip (eRule r)), (2, .ptr b 0), (10, .lit (.bool (!(mayU r)))), (3, .ip [.mp bm]), (13, .fn (.func 69) [] [.ip (eRule r)]), (37, .fn (.func 69) [] [.ip (eRule r)])] ⟨rfl, rfl, rfl, rfl, rfl, rfl, rfl, rfl, rfl, trivial⟩ ?_
        refine AW_xr [] [] ?_
        refine AL_als rfl rfl rfl rfl rfl rfl al41 rfl rfl rfl rfl rfl ?_
        refine AL_nil ?_
        exact ⟨rfl, rfl, rfl, .refl _, hJ, trivial, ⟨rfl, rfl, rfl, trivial⟩⟩
      · intro l_ i x hr tm hx hJ hA
        obtain ⟨hA, hL⟩ := hA
        refine AW_ghost (Looks.sub hL).ghost ?_
        clear hL
        obtain ⟨hle2, hrow2, hmap2, hS⟩ := hJ
        obtain ⟨hp, -, hmem⟩ := plOf_mem hx
        rw [checkUL_at hp] at hS
        refine AW_x [] [(11, 8)] ?_
        refine ⟨F41_0, T9, _, fun hg43 => ⟨T108, F41_0, T9, (.agg (eOne ⟨inF (plOf r i).2.var (givP r (placesL r).length)⟩)), PO_eqA (PO_lookup rfl un108 key9 zw112 rfl hmap2 rfl rfl rfl) (by rw [hes.2]; cases hq : inF (plOf r i).2.var (givP r (placesL r).length) <;> simp [hq, alook, eOne]), (.lit (.bool (inF (plOf r i).2.var (givP r (placesL r).length)))), PO_field rfl f112_0 ty4 rfl rfl, rfl⟩, fun hc11 => ?_, fun hc11 => ?_⟩
        · skip
          rw [if_pos hc11] at hS
          refine AL_store (b := b) (off := 0) (cs := [.lit (.int .i64 0)]) (v := .lit (.int .i64 5)) rfl rfl rfl ty29 rfl rfl hrow2 rfl rfl (by simp) ?_
          refine AL_nil ?_
          refine AW_ret ?_
          exact ⟨⟨rfl, Heap.le_upd hle2 hb _, (Heap.upd_same _ _ _).trans rfl, hS⟩, rfl⟩
        · skip
          rw [if_neg (by rw [hc11]; simp)] at hS
          exact ⟨⟨hle2, hrow2, hmap2, hS⟩, rfl⟩
      · intro hd1 r1_ hr0 hmark hJ
        obtain ⟨hle2, hrow2, hmap2, hS⟩ := hJ
        rw [List.length_map, List.drop_of_length_le (Nat.le_refl _), checkUL] at hS
        have hrn1 := Heap.none_of hle hr0
        refine AL_store (b := b) (off := 0) (cs := [.lit (.int .i64 0)]) (v := .lit (.int .i64 0)) rfl rfl rfl ty29 rfl rfl hrow2 rfl rfl (by simp) ?_
        refine AL_nil ?_
        refine AW_ret ?_
        exact ret_G (.inl rfl) (Results.cell rfl ty29 rfl (Heap.upd_same _ _ _) rfl) (by rw [hS]) (Heap.le_upd hle2 hb _) (by simpa using ⟨hrn1, hrn⟩)
      · intro e i hd1 r1_ hr0 hmark hc hJx
        obtain ⟨rfl, hle2, hrow2, hS⟩ := hJx
        have hrn1 := Heap.none_of hle hr0
        exact ret_G (.inl rfl) (Results.cell rfl ty29 rfl hrow2 rfl) (by rw [hS]) hle2 (by simpa using ⟨hrn1, hrn⟩)
    · intro e i hd r_ hr0 hmark hc hJx
      exact hJx.elim
end Go.AM.Tryd
end

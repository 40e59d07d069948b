/- A part of the proof: walks of the code and laws that they use (Ty, Du, Dv, Sq, Wa, Wb, Wc, Wd). Conditions: as each theorem names them. -/
import Derived.Test.YtdognapppnfpiaaDoorProg
import Derived.Test.YtdognapppnfpiaaDoorB9
section
set_option maxRecDepth 100000
namespace Go.AM.Tryd
open Go Go.AM
noncomputable abbrev PR : Program := Go.Proofs.Tryd.prog
abbrev d1 : TypeDesc := (Go.TypeDesc.func #[] #[] false)
abbrev zs1 : List AV := [.lit Value.nilFunc]
theorem z1 : ZeroF PR 1 zs1 := .mk_ (z := Go.Value.nilFunc) (by kernel_rfl) rfl rfl
abbrev d2 : TypeDesc := (Go.TypeDesc.int Go.IntKind.i64)
abbrev zs2 : List AV := [.lit (Value.int Go.IntKind.i64 0)]
theorem z2 : ZeroF PR 2 zs2 := .mk_ (z := (Go.Value.int Go.IntKind.i64 0)) (by kernel_rfl) rfl rfl
abbrev d3 : TypeDesc := (Go.TypeDesc.int Go.IntKind.i64)
theorem ty3 : TyF PR 3 d3 1 := .mk_ Go.Proofs.Tryd.underlying3 (by kernel_rfl)
theorem un3 : PR.underlying 3 = some d3 := Go.Proofs.Tryd.underlying3
abbrev zs3 : List AV := [.lit (Value.int Go.IntKind.i64 0)]
theorem z3 : ZeroF PR 3 zs3 := .mk_ (z := (Go.Value.int Go.IntKind.i64 0)) (by kernel_rfl) rfl rfl
abbrev zv3 : AV := .lit (Value.int Go.IntKind.i64 0)
theorem zw3 : ZeroV PR 3 zv3 := .mk_ (z := (Go.Value.int Go.IntKind.i64 0)) (by kernel_rfl) rfl
theorem by3 : (PR.info? 3).map (·.bytes) = some 8 := by kernel_rfl
abbrev d4 : TypeDesc := Go.TypeDesc.bool
theorem ty4 : TyF PR 4 d4 1 := .mk_ Go.Proofs.Tryd.underlying4 (by kernel_rfl)
abbrev zs4 : List AV := [.lit (Value.bool false)]
theorem z4 : ZeroF PR 4 zs4 := .mk_ (z := (Go.Value.bool false)) (by kernel_rfl) rfl rfl
abbrev d5 : TypeDesc := (Go.TypeDesc.int Go.IntKind.u8)
theorem ty5 : TyF PR 5 d5 1 := .mk_ Go.Proofs.Tryd.underlying5 (by kernel_rfl)
theorem un5 : PR.underlying 5 = some d5 := Go.Proofs.Tryd.underlying5
abbrev zs5 : List AV := [.lit (Value.int Go.IntKind.u8 0)]
theorem z5 : ZeroF PR 5 zs5 := .mk_ (z := (Go.Value.int Go.IntKind.u8 0)) (by kernel_rfl) rfl rfl
abbrev d9 : TypeDesc := Go.TypeDesc.string
theorem ty9 : TyF PR 9 d9 1 := .mk_ Go.Proofs.Tryd.underlying9 (by kernel_rfl)
theorem un9 : PR.underlying 9 = some d9 := Go.Proofs.Tryd.underlying9
abbrev zs9 : List AV := [.lit (Value.string ⟨#[]⟩)]
theorem z9 : ZeroF PR 9 zs9 := .mk_ (z := (Go.Value.string ⟨#[]⟩)) (by kernel_rfl) rfl rfl
theorem by9 : (PR.info? 9).map (·.bytes) = some 16 := by kernel_rfl
abbrev d22 : TypeDesc := (Go.TypeDesc.slice 46)
theorem un22 : PR.underlying 22 = some d22 := Go.Proofs.Tryd.underlying22
abbrev d23 : TypeDesc := (Go.TypeDesc.int Go.IntKind.i64)
theorem ty23 : TyF PR 23 d23 1 := .mk_ Go.Proofs.Tryd.underlying23 (by kernel_rfl)
abbrev d25 : TypeDesc := (Go.TypeDesc.struct #[{ name := "Kind", type := 23, offset := 0, embedded := false, tag := "", pkgPath := "", byteOffset := 0 }, { name := "Text", type := 9, offset := 1, embedded := false, tag := "", pkgPath := "", byteOffset := 8 }, { name := "Extra", type := 9, offset := 2, embedded := false, tag := "", pkgPath := "", byteOffset := 24 }])
theorem ty25 : TyF PR 25 d25 3 := .mk_ Go.Proofs.Tryd.underlying25 (by kernel_rfl)
abbrev zs25 : List AV := [.lit (Value.int Go.IntKind.i64 0), .lit (Value.string ⟨#[]⟩), .lit (Value.string ⟨#[]⟩)]
theorem z25 : ZeroF PR 25 zs25 := .mk_ (z := (Go.Value.agg #[(Go.Value.int Go.IntKind.i64 0), (Go.Value.string ⟨#[]⟩), (Go.Value.string ⟨#[]⟩)])) (by kernel_rfl) rfl rfl
theorem by25 : (PR.info? 25).map (·.bytes) = some 40 := by kernel_rfl
abbrev d28 : TypeDesc := (Go.TypeDesc.slice 32)
theorem un28 : PR.underlying 28 = some d28 := Go.Proofs.Tryd.underlying28
abbrev d29 : TypeDesc := (Go.TypeDesc.int Go.IntKind.i64)
theorem ty29 : TyF PR 29 d29 1 := .mk_ Go.Proofs.Tryd.underlying29 (by kernel_rfl)
abbrev zs29 : List AV := [.lit (Value.int Go.IntKind.i64 0)]
theorem z29 : ZeroF PR 29 zs29 := .mk_ (z := (Go.Value.int Go.IntKind.i64 0)) (by kernel_rfl) rfl rfl
abbrev d32 : TypeDesc := (Go.TypeDesc.slice 3)
theorem ty32 : TyF PR 32 d32 1 := .mk_ Go.Proofs.Tryd.underlying32 (by kernel_rfl)
theorem un32 : PR.underlying 32 = some d32 := Go.Proofs.Tryd.underlying32
abbrev zs32 : List AV := [.sl .nil 0 []]
theorem z32 : ZeroF PR 32 zs32 := .mk_ (z := (Go.Value.slice none 0 0)) (by kernel_rfl) rfl rfl
theorem by32 : (PR.info? 32).map (·.bytes) = some 24 := by kernel_rfl
abbrev d37 : TypeDesc := (Go.TypeDesc.slice 25)
theorem ty37 : TyF PR 37 d37 1 := .mk_ Go.Proofs.Tryd.underlying37 (by kernel_rfl)
theorem un37 : PR.underlying 37 = some d37 := Go.Proofs.Tryd.underlying37
abbrev d41 : TypeDesc := (Go.TypeDesc.struct #[{ name := "Var", type := 9, offset := 0, embedded := false, tag := "", pkgPath := "", byteOffset := 0 }, { name := "Term", type := 25, offset := 1, embedded := false, tag := "", pkgPath := "", byteOffset := 16 }])
theorem ty41 : TyF PR 41 d41 4 := .mk_ Go.Proofs.Tryd.underlying41 (by kernel_rfl)
abbrev zs41 : List AV := [.lit (Value.string ⟨#[]⟩), .lit (Value.int Go.IntKind.i64 0), .lit (Value.string ⟨#[]⟩), .lit (Value.string ⟨#[]⟩)]
theorem z41 : ZeroF PR 41 zs41 := .mk_ (z := (Go.Value.agg #[(Go.Value.string ⟨#[]⟩), (Go.Value.int Go.IntKind.i64 0), (Go.Value.string ⟨#[]⟩), (Go.Value.string ⟨#[]⟩)])) (by kernel_rfl) rfl rfl
theorem al41 : AllocF PR 41 d41 4 zs41 := ⟨ty41, z41, rfl⟩
theorem by41 : (PR.info? 41).map (·.bytes) = some 56 := by kernel_rfl
abbrev d43 : TypeDesc := (Go.TypeDesc.array 3 41)
theorem ty43 : TyF PR 43 d43 12 := .mk_ Go.Proofs.Tryd.underlying43 (by kernel_rfl)
theorem un43 : PR.underlying 43 = some d43 := Go.Proofs.Tryd.underlying43
abbrev zs43 : List AV := [.lit (Value.string ⟨#[]⟩), .lit (Value.int Go.IntKind.i64 0), .lit (Value.string ⟨#[]⟩), .lit (Value.string ⟨#[]⟩), .lit (Value.string ⟨#[]⟩), .lit (Value.int Go.IntKind.i64 0), .lit (Value.string ⟨#[]⟩), .lit (Value.string ⟨#[]⟩), .lit (Value.string ⟨#[]⟩), .lit (Value.int Go.IntKind.i64 0), .lit (Value.string ⟨#[]⟩), .lit (Value.string ⟨#[]⟩)]
theorem z43 : ZeroF PR 43 zs43 := .mk_ (z := (Go.Value.agg #[(Go.Value.string ⟨#[]⟩), (Go.Value.int Go.IntKind.i64 0), (Go.Value.string ⟨#[]⟩), (Go.Value.string ⟨#[]⟩), (Go.Value.string ⟨#[]⟩), (Go.Value.int Go.IntKind.i64 0), (Go.Value.string ⟨#[]⟩), (Go.Value.string ⟨#[]⟩), (Go.Value.string ⟨#[]⟩), (Go.Value.int Go.IntKind.i64 0), (Go.Value.string ⟨#[]⟩), (Go.Value.string ⟨#[]⟩)])) (by kernel_rfl) rfl rfl
abbrev d44 : TypeDesc := (Go.TypeDesc.slice 68)
theorem ty44 : TyF PR 44 d44 1 := .mk_ Go.Proofs.Tryd.underlying44 (by kernel_rfl)
theorem un44 : PR.underlying 44 = some d44 := Go.Proofs.Tryd.underlying44
abbrev d46 : TypeDesc := (Go.TypeDesc.struct #[{ name := "Head", type := 43, offset := 0, embedded := false, tag := "", pkgPath := "", byteOffset := 0 }, { name := "Body", type := 44, offset := 12, embedded := false, tag := "", pkgPath := "", byteOffset := 168 }])
theorem ty46 : TyF PR 46 d46 13 := .mk_ Go.Proofs.Tryd.underlying46 (by kernel_rfl)
abbrev zs46 : List AV := [.lit (Value.string ⟨#[]⟩), .lit (Value.int Go.IntKind.i64 0), .lit (Value.string ⟨#[]⟩), .lit (Value.string ⟨#[]⟩), .lit (Value.string ⟨#[]⟩), .lit (Value.int Go.IntKind.i64 0), .lit (Value.string ⟨#[]⟩), .lit (Value.string ⟨#[]⟩), .lit (Value.string ⟨#[]⟩), .lit (Value.int Go.IntKind.i64 0), .lit (Value.string ⟨#[]⟩), .lit (Value.string ⟨#[]⟩), .sl .nil 0 []]
theorem z46 : ZeroF PR 46 zs46 := .mk_ (z := (Go.Value.agg #[(Go.Value.string ⟨#[]⟩), (Go.Value.int Go.IntKind.i64 0), (Go.Value.string ⟨#[]⟩), (Go.Value.string ⟨#[]⟩), (Go.Value.string ⟨#[]⟩), (Go.Value.int Go.IntKind.i64 0), (Go.Value.string ⟨#[]⟩), (Go.Value.string ⟨#[]⟩), (Go.Value.string ⟨#[]⟩), (Go.Value.int Go.IntKind.i64 0), (Go.Value.string ⟨#[]⟩), (Go.Value.string ⟨#[]⟩), (Go.Value.slice none 0 0)])) (by kernel_rfl) rfl rfl
theorem al46 : AllocF PR 46 d46 13 zs46 := ⟨ty46, z46, rfl⟩
theorem by46 : (PR.info? 46).map (·.bytes) = some 192 := by kernel_rfl
abbrev d50 : TypeDesc := (Go.TypeDesc.slice 5)
theorem un50 : PR.underlying 50 = some d50 := Go.Proofs.Tryd.underlying50
abbrev d59 : TypeDesc := (Go.TypeDesc.map 25 3)
theorem ty59 : TyF PR 59 d59 1 := .mk_ Go.Proofs.Tryd.underlying59 (by kernel_rfl)
theorem un59 : PR.underlying 59 = some d59 := Go.Proofs.Tryd.underlying59
abbrev d60 : TypeDesc := (Go.TypeDesc.slice 81)
theorem ty60 : TyF PR 60 d60 1 := .mk_ Go.Proofs.Tryd.underlying60 (by kernel_rfl)
theorem un60 : PR.underlying 60 = some d60 := Go.Proofs.Tryd.underlying60
abbrev zs62 : List AV := [.sl .nil 0 [], .lit (Value.map none), .sl .nil 0 []]
theorem z62 : ZeroF PR 62 zs62 := .mk_ (z := (Go.Value.agg #[(Go.Value.slice none 0 0), (Go.Value.map none), (Go.Value.slice none 0 0)])) (by kernel_rfl) rfl rfl
abbrev d66 : TypeDesc := (Go.TypeDesc.int Go.IntKind.i64)
theorem ty66 : TyF PR 66 d66 1 := .mk_ Go.Proofs.Tryd.underlying66 (by kernel_rfl)
abbrev d68 : TypeDesc := (Go.TypeDesc.struct #[{ name := "Kind", type := 66, offset := 0, embedded := false, tag := "", pkgPath := "", byteOffset := 0 }, { name := "Pattern", type := 43, offset := 1, embedded := false, tag := "", pkgPath := "", byteOffset := 8 }, { name := "A", type := 41, offset := 13, embedded := false, tag := "", pkgPath := "", byteOffset := 176 }, { name := "B", type := 41, offset := 17, embedded := false, tag := "", pkgPath := "", byteOffset := 232 }])
theorem ty68 : TyF PR 68 d68 21 := .mk_ Go.Proofs.Tryd.underlying68 (by kernel_rfl)
abbrev zs68 : List AV := [.lit (Value.int Go.IntKind.i64 0), .lit (Value.string ⟨#[]⟩), .lit (Value.int Go.IntKind.i64 0), .lit (Value.string ⟨#[]⟩), .lit (Value.string ⟨#[]⟩), .lit (Value.string ⟨#[]⟩), .lit (Value.int Go.IntKind.i64 0), .lit (Value.string ⟨#[]⟩), .lit (Value.string ⟨#[]⟩), .lit (Value.string ⟨#[]⟩), .lit (Value.int Go.IntKind.i64 0), .lit (Value.string ⟨#[]⟩), .lit (Value.string ⟨#[]⟩), .lit (Value.string ⟨#[]⟩), .lit (Value.int Go.IntKind.i64 0), .lit (Value.string ⟨#[]⟩), .lit (Value.string ⟨#[]⟩), .lit (Value.string ⟨#[]⟩), .lit (Value.int Go.IntKind.i64 0), .lit (Value.string ⟨#[]⟩), .lit (Value.string ⟨#[]⟩)]
theorem z68 : ZeroF PR 68 zs68 := .mk_ (z := (Go.Value.agg #[(Go.Value.int Go.IntKind.i64 0), (Go.Value.string ⟨#[]⟩), (Go.Value.int Go.IntKind.i64 0), (Go.Value.string ⟨#[]⟩), (Go.Value.string ⟨#[]⟩), (Go.Value.string ⟨#[]⟩), (Go.Value.int Go.IntKind.i64 0), (Go.Value.string ⟨#[]⟩), (Go.Value.string ⟨#[]⟩), (Go.Value.string ⟨#[]⟩), (Go.Value.int Go.IntKind.i64 0), (Go.Value.string ⟨#[]⟩), (Go.Value.string ⟨#[]⟩), (Go.Value.string ⟨#[]⟩), (Go.Value.int Go.IntKind.i64 0), (Go.Value.string ⟨#[]⟩), (Go.Value.string ⟨#[]⟩), (Go.Value.string ⟨#[]⟩), (Go.Value.int Go.IntKind.i64 0), (Go.Value.string ⟨#[]⟩), (Go.Value.string ⟨#[]⟩)])) (by kernel_rfl) rfl rfl
theorem al68 : AllocF PR 68 d68 21 zs68 := ⟨ty68, z68, rfl⟩
theorem by68 : (PR.info? 68).map (·.bytes) = some 288 := by kernel_rfl
abbrev d72 : TypeDesc := (Go.TypeDesc.struct #[{ name := "Equality", type := 4, offset := 0, embedded := false, tag := "", pkgPath := "", byteOffset := 0 }])
theorem ty72 : TyF PR 72 d72 1 := .mk_ Go.Proofs.Tryd.underlying72 (by kernel_rfl)
abbrev zs72 : List AV := [.lit (Value.bool false)]
theorem z72 : ZeroF PR 72 zs72 := .mk_ (z := (Go.Value.agg #[(Go.Value.bool false)])) (by kernel_rfl) rfl rfl
theorem al72 : AllocF PR 72 d72 1 zs72 := ⟨ty72, z72, rfl⟩
abbrev d81 : TypeDesc := (Go.TypeDesc.slice 83)
theorem ty81 : TyF PR 81 d81 1 := .mk_ Go.Proofs.Tryd.underlying81 (by kernel_rfl)
theorem un81 : PR.underlying 81 = some d81 := Go.Proofs.Tryd.underlying81
abbrev zs81 : List AV := [.sl .nil 0 []]
theorem z81 : ZeroF PR 81 zs81 := .mk_ (z := (Go.Value.slice none 0 0)) (by kernel_rfl) rfl rfl
theorem by81 : (PR.info? 81).map (·.bytes) = some 24 := by kernel_rfl
abbrev d83 : TypeDesc := (Go.TypeDesc.struct #[{ name := "to", type := 3, offset := 0, embedded := false, tag := "", pkgPath := "rhizome/strata", byteOffset := 0 }, { name := "strict", type := 4, offset := 1, embedded := false, tag := "", pkgPath := "rhizome/strata", byteOffset := 8 }])
theorem ty83 : TyF PR 83 d83 2 := .mk_ Go.Proofs.Tryd.underlying83 (by kernel_rfl)
abbrev zs83 : List AV := [.lit (Value.int Go.IntKind.i64 0), .lit (Value.bool false)]
theorem z83 : ZeroF PR 83 zs83 := .mk_ (z := (Go.Value.agg #[(Go.Value.int Go.IntKind.i64 0), (Go.Value.bool false)])) (by kernel_rfl) rfl rfl
theorem al83 : AllocF PR 83 d83 2 zs83 := ⟨ty83, z83, rfl⟩
theorem by83 : (PR.info? 83).map (·.bytes) = some 16 := by kernel_rfl
abbrev d90 : TypeDesc := (Go.TypeDesc.slice 9)
theorem un90 : PR.underlying 90 = some d90 := Go.Proofs.Tryd.underlying90
abbrev d106 : TypeDesc := (Go.TypeDesc.slice 41)
theorem un106 : PR.underlying 106 = some d106 := Go.Proofs.Tryd.underlying106
abbrev d108 : TypeDesc := (Go.TypeDesc.map 9 112)
theorem ty108 : TyF PR 108 d108 1 := .mk_ Go.Proofs.Tryd.underlying108 (by kernel_rfl)
theorem un108 : PR.underlying 108 = some d108 := Go.Proofs.Tryd.underlying108
abbrev zs108 : List AV := [.lit (Value.map none)]
theorem z108 : ZeroF PR 108 zs108 := .mk_ (z := (Go.Value.map none)) (by kernel_rfl) rfl rfl
theorem al108 : AllocF PR 108 d108 1 zs108 := ⟨ty108, z108, rfl⟩
abbrev zs112 : List AV := [.lit (Value.bool false)]
theorem z112 : ZeroF PR 112 zs112 := .mk_ (z := (Go.Value.agg #[(Go.Value.bool false)])) (by kernel_rfl) rfl rfl
abbrev zv112 : AV := .agg zs112
theorem zw112 : ZeroV PR 112 zv112 := .mk_ (z := (Go.Value.agg #[(Go.Value.bool false)])) (by kernel_rfl) rfl
abbrev d139 : TypeDesc := (Go.TypeDesc.func #[25] #[4] false)
theorem un139 : PR.underlying 139 = some d139 := Go.Proofs.Tryd.underlying139
abbrev zv139 : AV := .lit Value.nilFunc
theorem zw139 : ZeroV PR 139 zv139 := .mk_ (z := Go.Value.nilFunc) (by kernel_rfl) rfl
abbrev d147 : TypeDesc := (Go.TypeDesc.slice 155)
theorem un147 : PR.underlying 147 = some d147 := Go.Proofs.Tryd.underlying147
abbrev d151 : TypeDesc := (Go.TypeDesc.map 23 139)
theorem un151 : PR.underlying 151 = some d151 := Go.Proofs.Tryd.underlying151
abbrev d155 : TypeDesc := (Go.TypeDesc.struct #[{ name := "At", type := 3, offset := 0, embedded := false, tag := "", pkgPath := "", byteOffset := 0 }, { name := "R", type := 3, offset := 1, embedded := false, tag := "", pkgPath := "", byteOffset := 8 }])
theorem ty155 : TyF PR 155 d155 2 := .mk_ Go.Proofs.Tryd.underlying155 (by kernel_rfl)
abbrev zs155 : List AV := [.lit (Value.int Go.IntKind.i64 0), .lit (Value.int Go.IntKind.i64 0)]
theorem z155 : ZeroF PR 155 zs155 := .mk_ (z := (Go.Value.agg #[(Go.Value.int Go.IntKind.i64 0), (Go.Value.int Go.IntKind.i64 0)])) (by kernel_rfl) rfl rfl
theorem by155 : (PR.info? 155).map (·.bytes) = some 16 := by kernel_rfl
theorem f25_0 : FieldF PR 25 0 0 23 := .mk_ Go.Proofs.Tryd.underlying25 rfl rfl rfl (m := 1) (by kernel_rfl) rfl
theorem f25_1 : FieldF PR 25 1 1 9 := .mk_ Go.Proofs.Tryd.underlying25 rfl rfl rfl (m := 1) (by kernel_rfl) rfl
theorem f25_2 : FieldF PR 25 2 2 9 := .mk_ Go.Proofs.Tryd.underlying25 rfl rfl rfl (m := 1) (by kernel_rfl) rfl
theorem pl25 : PlaceF PR 25 [(0, 1), (1, 1), (2, 1)] := ⟨_, Go.Proofs.Tryd.underlying25, fun w => by simp [run_sizeOf' ty9, run_sizeOf' ty23]⟩
theorem f41_0 : FieldF PR 41 0 0 9 := .mk_ Go.Proofs.Tryd.underlying41 rfl rfl rfl (m := 1) (by kernel_rfl) rfl
theorem f41_1 : FieldF PR 41 1 1 25 := .mk_ Go.Proofs.Tryd.underlying41 rfl rfl rfl (m := 3) (by kernel_rfl) rfl
theorem pl41 : PlaceF PR 41 [(0, 1), (1, 3)] := ⟨_, Go.Proofs.Tryd.underlying41, fun w => by simp [run_sizeOf' ty9, run_sizeOf' ty25]⟩
theorem f46_0 : FieldF PR 46 0 0 43 := .mk_ Go.Proofs.Tryd.underlying46 rfl rfl rfl (m := 12) (by kernel_rfl) rfl
theorem f46_1 : FieldF PR 46 1 12 44 := .mk_ Go.Proofs.Tryd.underlying46 rfl rfl rfl (m := 1) (by kernel_rfl) rfl
theorem pl46 : PlaceF PR 46 [(0, 12), (12, 1)] := ⟨_, Go.Proofs.Tryd.underlying46, fun w => by simp [run_sizeOf' ty43, run_sizeOf' ty44]⟩
theorem f62_0 : FieldF PR 62 0 0 37 := .mk_ Go.Proofs.Tryd.underlying62 rfl rfl rfl (m := 1) (by kernel_rfl) rfl
theorem f62_1 : FieldF PR 62 1 1 59 := .mk_ Go.Proofs.Tryd.underlying62 rfl rfl rfl (m := 1) (by kernel_rfl) rfl
theorem f62_2 : FieldF PR 62 2 2 60 := .mk_ Go.Proofs.Tryd.underlying62 rfl rfl rfl (m := 1) (by kernel_rfl) rfl
theorem pl62 : PlaceF PR 62 [(0, 1), (1, 1), (2, 1)] := ⟨_, Go.Proofs.Tryd.underlying62, fun w => by simp [run_sizeOf' ty37, run_sizeOf' ty59, run_sizeOf' ty60]⟩
theorem f68_0 : FieldF PR 68 0 0 66 := .mk_ Go.Proofs.Tryd.underlying68 rfl rfl rfl (m := 1) (by kernel_rfl) rfl
theorem f68_1 : FieldF PR 68 1 1 43 := .mk_ Go.Proofs.Tryd.underlying68 rfl rfl rfl (m := 12) (by kernel_rfl) rfl
theorem f68_2 : FieldF PR 68 2 13 41 := .mk_ Go.Proofs.Tryd.underlying68 rfl rfl rfl (m := 4) (by kernel_rfl) rfl
theorem f68_3 : FieldF PR 68 3 17 41 := .mk_ Go.Proofs.Tryd.underlying68 rfl rfl rfl (m := 4) (by kernel_rfl) rfl
theorem pl68 : PlaceF PR 68 [(0, 1), (1, 12), (13, 4), (17, 4)] := ⟨_, Go.Proofs.Tryd.underlying68, fun w => by simp [run_sizeOf' ty41, run_sizeOf' ty43, run_sizeOf' ty66]⟩
theorem pl72 : PlaceF PR 72 [(0, 1)] := ⟨_, Go.Proofs.Tryd.underlying72, fun w => by simp [run_sizeOf' ty4]⟩
theorem f83_0 : FieldF PR 83 0 0 3 := .mk_ Go.Proofs.Tryd.underlying83 rfl rfl rfl (m := 1) (by kernel_rfl) rfl
theorem f83_1 : FieldF PR 83 1 1 4 := .mk_ Go.Proofs.Tryd.underlying83 rfl rfl rfl (m := 1) (by kernel_rfl) rfl
theorem pl83 : PlaceF PR 83 [(0, 1), (1, 1)] := ⟨_, Go.Proofs.Tryd.underlying83, fun w => by simp [run_sizeOf' ty3, run_sizeOf' ty4]⟩
theorem f112_0 : FieldF PR 112 0 0 4 := .mk_ Go.Proofs.Tryd.underlying112 rfl rfl rfl (m := 1) (by kernel_rfl) rfl
theorem pl112 : PlaceF PR 112 [(0, 1)] := ⟨_, Go.Proofs.Tryd.underlying112, fun w => by simp [run_sizeOf' ty4]⟩
theorem pl155 : PlaceF PR 155 [(0, 1), (1, 1)] := ⟨_, Go.Proofs.Tryd.underlying155, fun w => by simp [run_sizeOf' ty3]⟩
abbrev ks9 : List CK := [.str]
theorem eq9 (d : Nat) : EqT PR (d + 1) 9 false ks9 := EqT_str d Go.Proofs.Tryd.underlying9
theorem ck9 (d : Nat) : CkT PR (d + 1) 9 false ks9 := CkT_plain d Go.Proofs.Tryd.underlying9 (.inl rfl)
theorem eqm9 : EqT PR 10000 9 false ks9 := eq9 9999
theorem key9 : KeyF PR 9 false ks9 := ⟨⟨_, Go.Proofs.Tryd.underlying9, .inr ⟨rfl, .inl ⟨rfl, rfl⟩⟩⟩, eqm9, ck9 9999⟩
abbrev ks23 : List CK := [.int .i64]
theorem eq23 (d : Nat) : EqT PR (d + 1) 23 false ks23 := EqT_int d Go.Proofs.Tryd.underlying23
theorem ck23 (d : Nat) : CkT PR (d + 1) 23 false ks23 := CkT_plain d Go.Proofs.Tryd.underlying23 (.inr (.inr ⟨_, rfl⟩))
theorem eqm23 : EqT PR 10000 23 false ks23 := eq23 9999
theorem key23 : KeyF PR 23 false ks23 := ⟨⟨_, Go.Proofs.Tryd.underlying23, .inr ⟨rfl, .inr (.inr ⟨_, rfl, rfl⟩)⟩⟩, eqm23, ck23 9999⟩
abbrev ks25 : List CK := ks23 ++ (ks9 ++ (ks9 ++ []))
theorem eq25 (d : Nat) : EqT PR (d + 2) 25 true ks25 := EqT_struct (d + 1) Go.Proofs.Tryd.underlying25 (by kernel_rfl) (.cons (by decide) rfl (by decide) ty23 (by intro h; first | rfl | cases h) (eq23 (d + 0)) (.cons (by decide) rfl (by decide) ty9 (by intro h; first | rfl | cases h) (eq9 (d + 0)) (.cons (by decide) rfl (by decide) ty9 (by intro h; first | rfl | cases h) (eq9 (d + 0)) (.nil _))))
theorem ck25 (d : Nat) : CkT PR (d + 2) 25 true ks25 := CkT_struct (d + 1) Go.Proofs.Tryd.underlying25 (.cons rfl (by decide) ty23 (by intro h; first | rfl | cases h) (ck23 (d + 0)) (.cons rfl (by decide) ty9 (by intro h; first | rfl | cases h) (ck9 (d + 0)) (.cons rfl (by decide) ty9 (by intro h; first | rfl | cases h) (ck9 (d + 0)) (.nil _))))
theorem eg25 : PR.eqGuardType PR.depth 25 = false := by kernel_rfl
theorem eqm25 : EqT PR 10000 25 true ks25 := eq25 9998
theorem key25 : KeyF PR 25 true ks25 := ⟨⟨_, Go.Proofs.Tryd.underlying25, .inl ⟨rfl, rfl⟩⟩, eqm25, ck25 9998⟩
abbrev ks41 : List CK := ks9 ++ (ks25 ++ [])
theorem eq41 (d : Nat) : EqT PR (d + 3) 41 true ks41 := EqT_struct (d + 2) Go.Proofs.Tryd.underlying41 (by kernel_rfl) (.cons (by decide) rfl (by decide) ty9 (by intro h; first | rfl | cases h) (eq9 (d + 1)) (.cons (by decide) rfl (by decide) ty25 (by intro h; first | rfl | cases h) (eq25 (d + 0)) (.nil _)))
theorem eg41 : PR.eqGuardType PR.depth 41 = false := by kernel_rfl
theorem eqm41 : EqT PR 10000 41 true ks41 := eq41 9997
abbrev ks43 : List CK := (List.replicate 3 ks41).flatten
theorem eq43 (d : Nat) : EqT PR (d + 4) 43 true ks43 := EqT_array (d + 3) Go.Proofs.Tryd.underlying43 ty41 (by intro h; first | rfl | cases h) (eq41 (d + 0))
theorem eg43 : PR.eqGuardType PR.depth 43 = false := by kernel_rfl
theorem eqm43 : EqT PR 10000 43 true ks43 := eq43 9996
abbrev ks66 : List CK := [.int .i64]
theorem eq66 (d : Nat) : EqT PR (d + 1) 66 false ks66 := EqT_int d Go.Proofs.Tryd.underlying66
abbrev ks68 : List CK := ks66 ++ (ks43 ++ (ks41 ++ (ks41 ++ [])))
theorem eq68 (d : Nat) : EqT PR (d + 5) 68 true ks68 := EqT_struct (d + 4) Go.Proofs.Tryd.underlying68 (by kernel_rfl) (.cons (by decide) rfl (by decide) ty66 (by intro h; first | rfl | cases h) (eq66 (d + 3)) (.cons (by decide) rfl (by decide) ty43 (by intro h; first | rfl | cases h) (eq43 (d + 0)) (.cons (by decide) rfl (by decide) ty41 (by intro h; first | rfl | cases h) (eq41 (d + 1)) (.cons (by decide) rfl (by decide) ty41 (by intro h; first | rfl | cases h) (eq41 (d + 1)) (.nil _)))))
theorem eg68 : PR.eqGuardType PR.depth 68 = false := by kernel_rfl
theorem eqm68 : EqT PR 10000 68 true ks68 := eq68 9995
end Go.AM.Tryd
end
section
namespace Go.AM.D
open Go Go.AM
def eI64 (n : Int) : List AV := [.lit (.int .i64 n)]
def eU8 (n : Int) : List AV := [.lit (.int .u8 n)]
def eI32 (n : Int) : List AV := [.lit (.int .i32 n)]
def eStr (s : ByteArray) : List AV := [.lit (.string s)]
def eBool (b : Bool) : List AV := [.lit (.bool b)]
section
variable {P : Program} {ρ : Option Nat} {Q : Exit → AS → Prop} {o : Oper} {n : Nat} {tm : List (Nat × AV)} {h h0 : Heap} {ms : List Nat} {σ : AS}
theorem ret_le2 {fn : Func} {u v : AV} {e : Exit} (he : e = .ret ∨ e = .normal) (hv : ares fn ⟨n, tm, h, [], h0⟩ = some u) (huv : u = v) (hh : h0.le h) : retQ fn h0 (fun a h' => a = v ∧ h0.le h') e ⟨n, tm, h, [], h0⟩ :=
  ret_le he (huv ▸ hv) hh
theorem PO_eqv {b b' : Bool} (hp : PO P ρ o σ (.lit (.bool b))) (e : b = b') : PO P ρ o σ (.lit (.bool b')) := e ▸ hp
end
theorem PO_eqI {P : Program} {ρ : Option Nat} {o : Oper} {σ : AS} {k : IntKind} {b b' : Int} (hp : PO P ρ o σ (.lit (.int k b))) (e : b = b') : PO P ρ o σ (.lit (.int k b')) := e ▸ hp
structure Rune where
  pos : Int
  r : Int
def eRune (r : Rune) : List AV := [.lit (.int .i64 r.pos), .lit (.int .i64 r.r)]
theorem vEq_str (a b : ByteArray) : vEq (.string a) (.string b) = decide (a = b) := rfl
theorem vEq_int (k k' : IntKind) (a b : Int) : vEq (.int k a) (.int k' b) = decide (a = b) := rfl
theorem dand {p q r : Prop} [Decidable p] [Decidable q] [Decidable r] (h : r ↔ p ∧ q) : (decide p && decide q) = decide r := by
  by_cases hp : p <;> by_cases hq : q <;> simp [h, hp, hq]
theorem eTerm_eq (a b : Term) : vEqs [.int .i64 a.kind, .string a.text, .string a.extra] [.int .i64 b.kind, .string b.text, .string b.extra] = decide (a = b) := by
  obtain ⟨a1, a2, a3⟩ := a; obtain ⟨b1, b2, b3⟩ := b
  simp only [vEqs, vEq_str, vEq_int, Bool.and_true, Term.mk.injEq, Bool.decide_and]
theorem eTerm_ne (a b : Term) : (!vEqs [.int .i64 a.kind, .string a.text, .string a.extra] [.int .i64 b.kind, .string b.text, .string b.extra]) = decide (a ≠ b) := by
  rw [eTerm_eq]; simp
theorem eSlot_eq (a b : Slot) : vEqs [.string a.var, .int .i64 a.term.kind, .string a.term.text, .string a.term.extra] [.string b.var, .int .i64 b.term.kind, .string b.term.text, .string b.term.extra] = decide (a = b) := by
  obtain ⟨a0, a1, a2, a3⟩ := a; obtain ⟨b0, b1, b2, b3⟩ := b
  simp only [vEqs, vEq_str, vEq_int, Bool.and_true, Term.mk.injEq, Slot.mk.injEq, Bool.decide_and]
theorem eSlot_ne (a b : Slot) : (!vEqs [.string a.var, .int .i64 a.term.kind, .string a.term.text, .string a.term.extra] [.string b.var, .int .i64 b.term.kind, .string b.term.text, .string b.term.extra]) = decide (a ≠ b) := by
  rw [eSlot_eq]; simp
abbrev cPat (p : Pat) : List Value := [.string p.a.var, .int .i64 p.a.term.kind, .string p.a.term.text, .string p.a.term.extra,
  .string p.b.var, .int .i64 p.b.term.kind, .string p.b.term.text, .string p.b.term.extra,
  .string p.c.var, .int .i64 p.c.term.kind, .string p.c.term.text, .string p.c.term.extra]
theorem ePat_eq (a b : Pat) : vEqs (cPat a) (cPat b) = decide (a = b) := by
  obtain ⟨⟨a0, a1, a2, a3⟩, ⟨b0, b1, b2, b3⟩, ⟨c0, c1, c2, c3⟩⟩ := a
  obtain ⟨⟨x0, x1, x2, x3⟩, ⟨y0, y1, y2, y3⟩, ⟨z0, z1, z2, z3⟩⟩ := b
  simp only [vEqs, vEq_str, vEq_int, Bool.and_true, Term.mk.injEq, Slot.mk.injEq, Pat.mk.injEq, Bool.decide_and, Bool.and_assoc]
theorem ePat_ne (a b : Pat) : (!vEqs (cPat a) (cPat b)) = decide (a ≠ b) := by
  rw [ePat_eq]; simp
abbrev cSlot (s : Slot) : List Value := [.string s.var, .int .i64 s.term.kind, .string s.term.text, .string s.term.extra]
theorem eLit_eq (a b : Lt) : vEqs (.int .i64 a.kind :: (cPat a.pat ++ (cSlot a.a ++ cSlot a.b))) (.int .i64 b.kind :: (cPat b.pat ++ (cSlot b.a ++ cSlot b.b))) = decide (a = b) := by
  obtain ⟨k, ⟨⟨a0, a1, a2, a3⟩, ⟨b0, b1, b2, b3⟩, ⟨c0, c1, c2, c3⟩⟩, ⟨d0, d1, d2, d3⟩, ⟨e0, e1, e2, e3⟩⟩ := a
  obtain ⟨l, ⟨⟨x0, x1, x2, x3⟩, ⟨y0, y1, y2, y3⟩, ⟨z0, z1, z2, z3⟩⟩, ⟨v0, v1, v2, v3⟩, ⟨w0, w1, w2, w3⟩⟩ := b
  simp only [cPat, cSlot, List.cons_append, List.nil_append, vEqs, vEq_str, vEq_int, Bool.and_true, Term.mk.injEq, Slot.mk.injEq, Pat.mk.injEq, Lt.mk.injEq, Bool.decide_and, Bool.and_assoc]
theorem eLit_ne (a b : Lt) : (!vEqs (.int .i64 a.kind :: (cPat a.pat ++ (cSlot a.a ++ cSlot a.b))) (.int .i64 b.kind :: (cPat b.pat ++ (cSlot b.a ++ cSlot b.b)))) = decide (a ≠ b) := by
  rw [eLit_eq]; simp
end Go.AM.D
namespace Go.AM.Tryd
theorem hmixed : PR.follows .mixedOrders = true := by kernel_rfl
end Go.AM.Tryd
end
section
namespace Go.AM.D
open Go Go.AM
theorem drop_at {α : Type} {l : List α} {i : Nat} (h : i < l.length) : ∃ r, l[i]? = some r ∧ l.drop i = r :: l.drop (i + 1) ∧ r ∈ l :=
  ⟨l[i], List.getElem?_eq_getElem h, List.drop_eq_getElem_cons h, List.getElem_mem h⟩
theorem drop_end {α : Type} {l : List α} {i : Nat} (h : l.length ≤ i) : l.drop i = [] := List.drop_of_length_le h
def bys (s : ByteArray) : List UInt8 := s.data.toList
theorem bsize (s : ByteArray) : (bys s).length = s.size := Array.length_toList
theorem bget {s : ByteArray} {i : Nat} {c : UInt8} (h : (bys s)[i]? = some c) : s[((i : Nat) : Int).toNat]? = some c := by
  have hi : i < s.size := by
    rw [← bsize]; exact (List.getElem?_eq_some_iff.1 h).1
  rw [Int.toNat_natCast]
  rw [getElem?_pos s i hi]
  rw [bys, Array.getElem?_toList] at h
  have : s.data[i]? = some s[i] := by
    rw [Array.getElem?_eq_getElem (hi)]; rfl
  rw [this] at h
  exact h
theorem bytes_inj {a b : ByteArray} (h : bys a = bys b) : a = b := by
  obtain ⟨a⟩ := a; obtain ⟨b⟩ := b
  simp only [bys] at h
  rw [ByteArray.mk.injEq]; exact Array.toList_inj.1 h
theorem beq_iff {a b : ByteArray} : a = b ↔ bys a = bys b := ⟨fun h => h ▸ rfl, bytes_inj⟩
def okT (t : Term) : Prop := t.text.size ≤ 1048576 ∧ t.extra.size ≤ 1048576
def okS (s : Slot) : Prop := s.var.size ≤ 1048576 ∧ okT s.term
def okP (p : Pat) : Prop := okS p.a ∧ okS p.b ∧ okS p.c
def okL (l : Lt) : Prop := okP l.pat ∧ okS l.a ∧ okS l.b
def okR (r : Rule) : Prop := okP r.head ∧ r.body.length ≤ 1048576 ∧ ∀ l ∈ r.body, okL l
def okRs (l : List Rule) : Prop := l.length ≤ 1048576 ∧ ∀ r ∈ l, okR r
end Go.AM.D
end
section
namespace Go.AM.D
open Go Go.AM
abbrev vi (x : Int) : AV := .lit (.int .i64 x)
abbrev vn (x : Nat) : AV := .lit (.int .i64 ((x : Nat) : Int))
abbrev vb (x : Bool) : AV := .lit (.bool x)
abbrev vs (x : ByteArray) : AV := .lit (.string x)
abbrev vR (l : List Rule) : AV := .sl .any 13 (l.map eRule)
abbrev vL (l : List Lt) : AV := .sl .any 21 (l.map eLit)
abbrev vT (l : List Term) : AV := .sl .any 3 (l.map eTerm)
section
variable {P : Program} {ρ : Option Nat} {Q : Exit → AS → Prop} {o : Oper} {ops : Array Oper} {l : List Oper} {n d : Nat} {tm : List (Nat × AV)} {h h0 : Heap} {ms : List Nat}
theorem qp {v : AV} (hp : PO P ρ o ⟨n, tm, h, ms, h0⟩ v) (k : AL P ρ ops l Q ⟨n, (d, v) :: tm, h, ms, h0⟩) (hg : o.guard = none := by rfl) (hdst : o.dst = some d := by rfl) (hd : Nat.blt d n = true := by rfl) : AL P ρ ops (o :: l) Q ⟨n, tm, h, ms, h0⟩ := AL_p hg hdst hd hp k
theorem qg {o' : Oper} {j t : Nat} {b : Bool} {v : AV} (hp : PO P ρ o ⟨n, tm, h, ms, h0⟩ v) (k : AL P ρ ops l Q ⟨n, (d, v) :: tm, h, ms, h0⟩) (hg : o.guard = some (j, b) := by rfl) (hj : ops[j]? = some o' := by rfl) (ht : o'.dst = some t := by rfl) (hb : look tm t = some (.lit (.bool b)) := by rfl) (hdst : o.dst = some d := by rfl) (hd : Nat.blt d n = true := by rfl) : AL P ρ ops (o :: l) Q ⟨n, tm, h, ms, h0⟩ := AL_pg hg hj ht hb hdst hd hp k
theorem qm {x : Operand} {v : AV} (k : AL P ρ ops l Q ⟨n, (d, v) :: tm, h, ms, h0⟩) (ho : o.op = .move x := by rfl) (hx : ev tm x = some v := by rfl) (hg : o.guard = none := by rfl) (hdst : o.dst = some d := by rfl) (hd : Nat.blt d n = true := by rfl) : AL P ρ ops (o :: l) Q ⟨n, tm, h, ms, h0⟩ := AL_p hg hdst hd (PO_move ho hx) k
theorem qa {x : Operand} {v : AV} (k : AL P ρ ops l Q ⟨n, (d, v) :: tm, h, ms, h0⟩) (ho : o.op = .assign x := by rfl) (hx : ev tm x = some v := by rfl) (hg : o.guard = none := by rfl) (hdst : o.dst = some d := by rfl) (hd : Nat.blt d n = true := by rfl) : AL P ρ ops (o :: l) Q ⟨n, tm, h, ms, h0⟩ := AL_p hg hdst hd (PO_assign ho hx) k
theorem gm {o' : Oper} {j t : Nat} {b : Bool} {x : Operand} {v : AV} (k : AL P ρ ops l Q ⟨n, (d, v) :: tm, h, ms, h0⟩) (ho : o.op = .move x := by rfl) (hx : ev tm x = some v := by rfl) (hg : o.guard = some (j, b) := by rfl) (hj : ops[j]? = some o' := by rfl) (ht : o'.dst = some t := by rfl) (hb : look tm t = some (.lit (.bool b)) := by rfl) (hdst : o.dst = some d := by rfl) (hd : Nat.blt d n = true := by rfl) : AL P ρ ops (o :: l) Q ⟨n, tm, h, ms, h0⟩ := AL_pg hg hj ht hb hdst hd (PO_move ho hx) k
theorem ga {o' : Oper} {j t : Nat} {b : Bool} {x : Operand} {v : AV} (k : AL P ρ ops l Q ⟨n, (d, v) :: tm, h, ms, h0⟩) (ho : o.op = .assign x := by rfl) (hx : ev tm x = some v := by rfl) (hg : o.guard = some (j, b) := by rfl) (hj : ops[j]? = some o' := by rfl) (ht : o'.dst = some t := by rfl) (hb : look tm t = some (.lit (.bool b)) := by rfl) (hdst : o.dst = some d := by rfl) (hd : Nat.blt d n = true := by rfl) : AL P ρ ops (o :: l) Q ⟨n, tm, h, ms, h0⟩ := AL_pg hg hj ht hb hdst hd (PO_assign ho hx) k
theorem qk {c x y : Operand} {b0 : Bool} {v : AV} (k : AL P ρ ops l Q ⟨n, (d, v) :: tm, h, ms, h0⟩) (ho : o.op = .pick c x y := by rfl) (hc : ev tm c = some (.lit (.bool b0)) := by rfl) (hv : picked b0 (ev tm x) (ev tm y) = some v := by rfl) (hg : o.guard = none := by rfl) (hdst : o.dst = some d := by rfl) (hd : Nat.blt d n = true := by rfl) : AL P ρ ops (o :: l) Q ⟨n, tm, h, ms, h0⟩ := AL_p hg hdst hd (PO_pick ho hc hv) k
theorem gk {o' : Oper} {j t : Nat} {b b0 : Bool} {c x y : Operand} {v : AV} (k : AL P ρ ops l Q ⟨n, (d, v) :: tm, h, ms, h0⟩) (ho : o.op = .pick c x y := by rfl) (hc : ev tm c = some (.lit (.bool b0)) := by rfl) (hv : picked b0 (ev tm x) (ev tm y) = some v := by rfl) (hg : o.guard = some (j, b) := by rfl) (hj : ops[j]? = some o' := by rfl) (ht : o'.dst = some t := by rfl) (hb : look tm t = some (.lit (.bool b)) := by rfl) (hdst : o.dst = some d := by rfl) (hd : Nat.blt d n = true := by rfl) : AL P ρ ops (o :: l) Q ⟨n, tm, h, ms, h0⟩ := AL_pg hg hj ht hb hdst hd (PO_pick ho hc hv) k
theorem pI {σ : AS} {x y : Operand} {op : BinOp} {t t' : TypeId} {k : IntKind} {i j : Int} {v : Value} (ho : o.op = .binOp op t x y t' := by rfl) (hx : ev σ.tm x = some (.lit (.int k i)) := by rfl) (hy : ev σ.tm y = some (.lit (.int k j)) := by rfl) (hv : intOp op k i j = some v := by rfl) (hd : divSafe op j := by trivial) : PO P ρ o σ (.lit v) := PO_int ho hx hy hv hd
theorem AL_jk (m k : Nat) (u : AV) (tm0 : List (Nat × AV)) (_hk : Looks tm tm0) (hl : AL P ρ ops (l.take m) (fun e σ' => e = .normal ∧ At σ' n ((k, u) :: tm0) h ms h0) ⟨n, tm, h, ms, h0⟩) (hr : AL P ρ ops (l.drop m) Q ⟨n, (k, u) :: tm0, h, ms, h0⟩) : AL P ρ ops l Q ⟨n, tm, h, ms, h0⟩ := AL_join m _ hl hr
theorem qz {o' : Oper} {j t : Nat} {b want : Bool} (k : AL P ρ ops l Q ⟨n, (d, .tup []) :: tm, h, ms, h0⟩) (hg : o.guard = some (j, want) := by rfl) (hj : ops[j]? = some o' := by rfl) (ht : o'.dst = some t := by rfl) (hb : look tm t = some (.lit (.bool b)) := by rfl) (hne : (b == want) = false := by rfl) (hdst : o.dst = some d := by rfl) (hd : Nat.blt d n = true := by rfl) : AL P ρ ops (o :: l) Q ⟨n, tm, h, ms, h0⟩ := AL_s0 hg hj ht hb hne hdst hd k
theorem qy {o' : Oper} {j t : Nat} {want : Bool} (k : AL P ρ ops l Q ⟨n, (d, .tup []) :: tm, h, ms, h0⟩) (hg : o.guard = some (j, want) := by rfl) (hj : ops[j]? = some o' := by rfl) (ht : o'.dst = some t := by rfl) (hb : look tm t = some (.tup []) := by rfl) (hdst : o.dst = some d := by rfl) (hd : Nat.blt d n = true := by rfl) : AL P ρ ops (o :: l) Q ⟨n, tm, h, ms, h0⟩ := AL_s1 hg hj ht hb hdst hd k
theorem nl {tm' : List (Nat × AV)} (hk : Looks tm tm') : AL P ρ ops [] (fun e σ' => e = .normal ∧ At σ' n tm' h ms h0) ⟨n, tm, h, ms, h0⟩ := AL_nil ⟨rfl, ⟨rfl, hk, rfl, rfl, rfl⟩⟩
end
end Go.AM.D
end
section
set_option maxRecDepth 100000
set_option linter.unusedVariables false
set_option linter.unusedSimpArgs false
namespace Go.AM.Tryd
open Go Go.AM Go.AM.D
def letterF (c : Int) : Bool := (decide (c ≥ 65) && decide (c ≤ 90)) || (decide (c ≥ 97) && decide (c ≤ 122))
def digitF (c : Int) : Bool := decide (c ≥ 48) && decide (c ≤ 57)
theorem letter86_ (c : Int) : PFn PR (.fn (.func 86) [] []) [.lit (.int .u8 c)] (.lit (.bool (letterF c))) := by
 refine PFn_of Go.Proofs.Tryd.func86 rfl (by rfl) Go.Proofs.Tryd.ntmps86 rfl (by simp) fun h => ?_
 refine AW_seq (AW_region rfl ?_)
 refine qa (v := vb false) ?_
 refine AL_nil (AW_seq (AW_region rfl ?_))
 refine qm ?_
 refine qp (v := vb (decide ((c : Int) ≥ 65))) pI ?_
 refine qm ?_
 refine AL_jk 3 8 (vb ((decide ((c : Int) ≥ 65)) && (decide ((c : Int) ≤ 90)))) [(0,_),(2,_),(3,_),(4,_),(5,_)] ⟨rfl,rfl,rfl,rfl,rfl,trivial⟩ ?_ ?_
 ·refine AL_split 5 _ rfl (fun hg5 => ?_) (fun hg5 => ?_)
  ·refine gm ?_
   refine qg (v := vb (decide ((c : Int) ≤ 90))) pI ?_
   refine qk ?_
   refine AL_say (k := 8) (vb ((decide ((c : Int) ≥ 65)) && (decide ((c : Int) ≤ 90)))) rfl (by rw [hg5]; rfl) ?_
   refine AL_say (k := 5) (vb (decide ((c : Int) ≥ 65))) rfl (by rw [hg5]) ?_
   exact nl ⟨rfl,rfl,rfl,rfl,rfl,rfl,trivial⟩
  ·refine qz ?_
   refine qz ?_
   refine qk ?_
   refine AL_say (k := 8) (vb ((decide ((c : Int) ≥ 65)) && (decide ((c : Int) ≤ 90)))) rfl (by rw [hg5]; rfl) ?_
   refine AL_say (k := 5) (vb (decide ((c : Int) ≥ 65))) rfl (by rw [hg5]) ?_
   exact nl ⟨rfl,rfl,rfl,rfl,rfl,rfl,trivial⟩
 ·refine qm ?_
  refine AL_jk 7 16 (vb (((decide ((c : Int) ≥ 65)) && (decide ((c : Int) ≤ 90))) || ((decide ((c : Int) ≥ 97)) && (decide ((c : Int) ≤ 122))))) [(8,_),(0,_),(2,_),(3,_),(4,_),(5,_),(9,_)] ⟨rfl,rfl,rfl,rfl,rfl,rfl,rfl,trivial⟩ ?_ ?_
  ·refine AL_split 9 _ rfl (fun hg9 => ?_) (fun hg9 => ?_)
   ·refine qz ?_
    refine qz ?_
    refine qz ?_
    refine qy ?_
    refine qy ?_
    refine qz ?_
    refine qk ?_
    refine AL_say (k := 16) (vb (((decide ((c : Int) ≥ 65)) && (decide ((c : Int) ≤ 90))) || ((decide ((c : Int) ≥ 97)) && (decide ((c : Int) ≤ 122))))) rfl (by rw [hg9]; rfl) ?_
    refine AL_say (k := 9) (vb ((decide ((c : Int) ≥ 65)) && (decide ((c : Int) ≤ 90)))) rfl (by rw [hg9]) ?_
    exact nl ⟨rfl,rfl,rfl,rfl,rfl,rfl,rfl,rfl,trivial⟩
   ·refine gm ?_
    refine qg (v := vb (decide ((c : Int) ≥ 97))) pI ?_
    refine gm ?_
    refine AL_jk 3 15 (vb ((decide ((c : Int) ≥ 97)) && (decide ((c : Int) ≤ 122)))) [(8,_),(0,_),(2,_),(3,_),(4,_),(5,_),(9,_),(10,_),(11,_),(12,_)] ⟨rfl,rfl,rfl,rfl,rfl,rfl,rfl,rfl,rfl,rfl,trivial⟩ ?_ ?_
    ·refine AL_split 12 _ rfl (fun hg12 => ?_) (fun hg12 => ?_)
     ·refine gm ?_
      refine qg (v := vb (decide ((c : Int) ≤ 122))) pI ?_
      refine gk ?_
      refine AL_say (k := 15) (vb ((decide ((c : Int) ≥ 97)) && (decide ((c : Int) ≤ 122)))) rfl (by rw [hg12]; rfl) ?_
      refine AL_say (k := 12) (vb (decide ((c : Int) ≥ 97))) rfl (by rw [hg12]) ?_
      exact nl ⟨rfl,rfl,rfl,rfl,rfl,rfl,rfl,rfl,rfl,rfl,rfl,trivial⟩
     ·refine qz ?_
      refine qz ?_
      refine gk ?_
      refine AL_say (k := 15) (vb ((decide ((c : Int) ≥ 97)) && (decide ((c : Int) ≤ 122)))) rfl (by rw [hg12]; rfl) ?_
      refine AL_say (k := 12) (vb (decide ((c : Int) ≥ 97))) rfl (by rw [hg12]) ?_
      exact nl ⟨rfl,rfl,rfl,rfl,rfl,rfl,rfl,rfl,rfl,rfl,rfl,trivial⟩
    ·refine qk ?_
     refine AL_say (k := 16) (vb (((decide ((c : Int) ≥ 65)) && (decide ((c : Int) ≤ 90))) || ((decide ((c : Int) ≥ 97)) && (decide ((c : Int) ≤ 122))))) rfl (by rw [hg9]; rfl) ?_
     refine AL_say (k := 9) (vb ((decide ((c : Int) ≥ 65)) && (decide ((c : Int) ≤ 90)))) rfl (by rw [hg9]) ?_
     exact nl ⟨rfl,rfl,rfl,rfl,rfl,rfl,rfl,rfl,trivial⟩
  ·refine qa ?_
   refine AL_keep [(0,_),(2,_)] ⟨rfl,rfl,trivial⟩ ?_
   refine AL_nil ?_
   refine AW_ret ?_
   exact ret_le2 (.inl rfl) rfl (by rfl) (.refl _)
theorem letter108_ (c : Int) : PFn PR (.fn (.func 108) [] []) [.lit (.int .u8 c)] (.lit (.bool (letterF c))) := by
 refine PFn_of Go.Proofs.Tryd.func108 rfl (by rfl) Go.Proofs.Tryd.ntmps108 rfl (by simp) fun h => ?_
 refine AW_seq (AW_region rfl ?_)
 refine qa (v := vb false) ?_
 refine AL_nil (AW_seq (AW_region rfl ?_))
 refine qm ?_
 refine qp (v := vb (decide ((c : Int) ≥ 65))) pI ?_
 refine qm ?_
 refine AL_jk 3 8 (vb ((decide ((c : Int) ≥ 65)) && (decide ((c : Int) ≤ 90)))) [(0,_),(2,_),(3,_),(4,_),(5,_)] ⟨rfl,rfl,rfl,rfl,rfl,trivial⟩ ?_ ?_
 ·refine AL_split 5 _ rfl (fun hg5 => ?_) (fun hg5 => ?_)
  ·refine gm ?_
   refine qg (v := vb (decide ((c : Int) ≤ 90))) pI ?_
   refine qk ?_
   refine AL_say (k := 8) (vb ((decide ((c : Int) ≥ 65)) && (decide ((c : Int) ≤ 90)))) rfl (by rw [hg5]; rfl) ?_
   refine AL_say (k := 5) (vb (decide ((c : Int) ≥ 65))) rfl (by rw [hg5]) ?_
   exact nl ⟨rfl,rfl,rfl,rfl,rfl,rfl,trivial⟩
  ·refine qz ?_
   refine qz ?_
   refine qk ?_
   refine AL_say (k := 8) (vb ((decide ((c : Int) ≥ 65)) && (decide ((c : Int) ≤ 90)))) rfl (by rw [hg5]; rfl) ?_
   refine AL_say (k := 5) (vb (decide ((c : Int) ≥ 65))) rfl (by rw [hg5]) ?_
   exact nl ⟨rfl,rfl,rfl,rfl,rfl,rfl,trivial⟩
 ·refine qm ?_
  refine AL_jk 7 16 (vb (((decide ((c : Int) ≥ 65)) && (decide ((c : Int) ≤ 90))) || ((decide ((c : Int) ≥ 97)) && (decide ((c : Int) ≤ 122))))) [(8,_),(0,_),(2,_),(3,_),(4,_),(5,_),(9,_)] ⟨rfl,rfl,rfl,rfl,rfl,rfl,rfl,trivial⟩ ?_ ?_
  ·refine AL_split 9 _ rfl (fun hg9 => ?_) (fun hg9 => ?_)
   ·refine qz ?_
    refine qz ?_
    refine qz ?_
    refine qy ?_
    refine qy ?_
    refine qz ?_
    refine qk ?_
    refine AL_say (k := 16) (vb (((decide ((c : Int) ≥ 65)) && (decide ((c : Int) ≤ 90))) || ((decide ((c : Int) ≥ 97)) && (decide ((c : Int) ≤ 122))))) rfl (by rw [hg9]; rfl) ?_
    refine AL_say (k := 9) (vb ((decide ((c : Int) ≥ 65)) && (decide ((c : Int) ≤ 90)))) rfl (by rw [hg9]) ?_
    exact nl ⟨rfl,rfl,rfl,rfl,rfl,rfl,rfl,rfl,trivial⟩
   ·refine gm ?_
    refine qg (v := vb (decide ((c : Int) ≥ 97))) pI ?_
    refine gm ?_
    refine AL_jk 3 15 (vb ((decide ((c : Int) ≥ 97)) && (decide ((c : Int) ≤ 122)))) [(8,_),(0,_),(2,_),(3,_),(4,_),(5,_),(9,_),(10,_),(11,_),(12,_)] ⟨rfl,rfl,rfl,rfl,rfl,rfl,rfl,rfl,rfl,rfl,trivial⟩ ?_ ?_
    ·refine AL_split 12 _ rfl (fun hg12 => ?_) (fun hg12 => ?_)
     ·refine gm ?_
      refine qg (v := vb (decide ((c : Int) ≤ 122))) pI ?_
      refine gk ?_
      refine AL_say (k := 15) (vb ((decide ((c : Int) ≥ 97)) && (decide ((c : Int) ≤ 122)))) rfl (by rw [hg12]; rfl) ?_
      refine AL_say (k := 12) (vb (decide ((c : Int) ≥ 97))) rfl (by rw [hg12]) ?_
      exact nl ⟨rfl,rfl,rfl,rfl,rfl,rfl,rfl,rfl,rfl,rfl,rfl,trivial⟩
     ·refine qz ?_
      refine qz ?_
      refine gk ?_
      refine AL_say (k := 15) (vb ((decide ((c : Int) ≥ 97)) && (decide ((c : Int) ≤ 122)))) rfl (by rw [hg12]; rfl) ?_
      refine AL_say (k := 12) (vb (decide ((c : Int) ≥ 97))) rfl (by rw [hg12]) ?_
      exact nl ⟨rfl,rfl,rfl,rfl,rfl,rfl,rfl,rfl,rfl,rfl,rfl,trivial⟩
    ·refine qk ?_
     refine AL_say (k := 16) (vb (((decide ((c : Int) ≥ 65)) && (decide ((c : Int) ≤ 90))) || ((decide ((c : Int) ≥ 97)) && (decide ((c : Int) ≤ 122))))) rfl (by rw [hg9]; rfl) ?_
     refine AL_say (k := 9) (vb ((decide ((c : Int) ≥ 65)) && (decide ((c : Int) ≤ 90)))) rfl (by rw [hg9]) ?_
     exact nl ⟨rfl,rfl,rfl,rfl,rfl,rfl,rfl,rfl,trivial⟩
  ·refine qa ?_
   refine AL_keep [(0,_),(2,_)] ⟨rfl,rfl,trivial⟩ ?_
   refine AL_nil ?_
   refine AW_ret ?_
   exact ret_le2 (.inl rfl) rfl (by rfl) (.refl _)
theorem digit87_ (c : Int) : PFn PR (.fn (.func 87) [] []) [.lit (.int .u8 c)] (.lit (.bool (digitF c))) := by
 refine PFn_of Go.Proofs.Tryd.func87 rfl (by rfl) Go.Proofs.Tryd.ntmps87 rfl (by simp) fun h => ?_
 refine AW_seq (AW_region rfl ?_)
 refine qa (v := vb false) ?_
 refine AL_nil (AW_seq (AW_region rfl ?_))
 refine qm ?_
 refine qp (v := vb (decide ((c : Int) ≥ 48))) pI ?_
 refine qm ?_
 refine AL_jk 3 8 (vb ((decide ((c : Int) ≥ 48)) && (decide ((c : Int) ≤ 57)))) [(0,_),(2,_),(3,_),(4,_),(5,_)] ⟨rfl,rfl,rfl,rfl,rfl,trivial⟩ ?_ ?_
 ·refine AL_split 5 _ rfl (fun hg5 => ?_) (fun hg5 => ?_)
  ·refine gm ?_
   refine qg (v := vb (decide ((c : Int) ≤ 57))) pI ?_
   refine qk ?_
   refine AL_say (k := 8) (vb ((decide ((c : Int) ≥ 48)) && (decide ((c : Int) ≤ 57)))) rfl (by rw [hg5]; rfl) ?_
   refine AL_say (k := 5) (vb (decide ((c : Int) ≥ 48))) rfl (by rw [hg5]) ?_
   exact nl ⟨rfl,rfl,rfl,rfl,rfl,rfl,trivial⟩
  ·refine qz ?_
   refine qz ?_
   refine qk ?_
   refine AL_say (k := 8) (vb ((decide ((c : Int) ≥ 48)) && (decide ((c : Int) ≤ 57)))) rfl (by rw [hg5]; rfl) ?_
   refine AL_say (k := 5) (vb (decide ((c : Int) ≥ 48))) rfl (by rw [hg5]) ?_
   exact nl ⟨rfl,rfl,rfl,rfl,rfl,rfl,trivial⟩
 ·refine qa ?_
  refine AL_keep [(0,_),(2,_)] ⟨rfl,rfl,trivial⟩ ?_
  refine AL_nil ?_
  refine AW_ret ?_
  exact ret_le2 (.inl rfl) rfl (by rfl) (.refl _)
theorem digit109_ (c : Int) : PFn PR (.fn (.func 109) [] []) [.lit (.int .u8 c)] (.lit (.bool (digitF c))) := by
 refine PFn_of Go.Proofs.Tryd.func109 rfl (by rfl) Go.Proofs.Tryd.ntmps109 rfl (by simp) fun h => ?_
 refine AW_seq (AW_region rfl ?_)
 refine qa (v := vb false) ?_
 refine AL_nil (AW_seq (AW_region rfl ?_))
 refine qm ?_
 refine qp (v := vb (decide ((c : Int) ≥ 48))) pI ?_
 refine qm ?_
 refine AL_jk 3 8 (vb ((decide ((c : Int) ≥ 48)) && (decide ((c : Int) ≤ 57)))) [(0,_),(2,_),(3,_),(4,_),(5,_)] ⟨rfl,rfl,rfl,rfl,rfl,trivial⟩ ?_ ?_
 ·refine AL_split 5 _ rfl (fun hg5 => ?_) (fun hg5 => ?_)
  ·refine gm ?_
   refine qg (v := vb (decide ((c : Int) ≤ 57))) pI ?_
   refine qk ?_
   refine AL_say (k := 8) (vb ((decide ((c : Int) ≥ 48)) && (decide ((c : Int) ≤ 57)))) rfl (by rw [hg5]; rfl) ?_
   refine AL_say (k := 5) (vb (decide ((c : Int) ≥ 48))) rfl (by rw [hg5]) ?_
   exact nl ⟨rfl,rfl,rfl,rfl,rfl,rfl,trivial⟩
  ·refine qz ?_
   refine qz ?_
   refine qk ?_
   refine AL_say (k := 8) (vb ((decide ((c : Int) ≥ 48)) && (decide ((c : Int) ≤ 57)))) rfl (by rw [hg5]; rfl) ?_
   refine AL_say (k := 5) (vb (decide ((c : Int) ≥ 48))) rfl (by rw [hg5]) ?_
   exact nl ⟨rfl,rfl,rfl,rfl,rfl,rfl,trivial⟩
 ·refine qa ?_
  refine AL_keep [(0,_),(2,_)] ⟨rfl,rfl,trivial⟩ ?_
  refine AL_nil ?_
  refine AW_ret ?_
  exact ret_le2 (.inl rfl) rfl (by rfl) (.refl _)
def mayF (r : Int) : Bool := (decide (r ≥ 0) && decide (r ≤ 1114111)) && (decide (r < 55296) || decide (r > 57343))
theorem may103_ (r : Int) : PFn PR (.fn (.func 103) [] []) [.lit (.int .i64 r)] (.lit (.bool (mayF r))) := by
 refine PFn_of Go.Proofs.Tryd.func103 rfl (by rfl) Go.Proofs.Tryd.ntmps103 rfl (by simp) fun h => ?_
 refine AW_seq (AW_region rfl ?_)
 refine qa (v := vb false) ?_
 refine AL_nil (AW_seq (AW_region rfl ?_))
 refine qm ?_
 refine qp (v := vb (decide ((r : Int) ≥ 0))) pI ?_
 refine qm ?_
 refine AL_jk 3 8 (vb ((decide ((r : Int) ≥ 0)) && (decide ((r : Int) ≤ 1114111)))) [(0,_),(2,_),(3,_),(4,_),(5,_)] ⟨rfl,rfl,rfl,rfl,rfl,trivial⟩ ?_ ?_
 ·refine AL_split 5 _ rfl (fun hg5 => ?_) (fun hg5 => ?_)
  ·refine gm ?_
   refine qg (v := vb (decide ((r : Int) ≤ 1114111))) pI ?_
   refine qk ?_
   refine AL_say (k := 8) (vb ((decide ((r : Int) ≥ 0)) && (decide ((r : Int) ≤ 1114111)))) rfl (by rw [hg5]; rfl) ?_
   refine AL_say (k := 5) (vb (decide ((r : Int) ≥ 0))) rfl (by rw [hg5]) ?_
   exact nl ⟨rfl,rfl,rfl,rfl,rfl,rfl,trivial⟩
  ·refine qz ?_
   refine qz ?_
   refine qk ?_
   refine AL_say (k := 8) (vb ((decide ((r : Int) ≥ 0)) && (decide ((r : Int) ≤ 1114111)))) rfl (by rw [hg5]; rfl) ?_
   refine AL_say (k := 5) (vb (decide ((r : Int) ≥ 0))) rfl (by rw [hg5]) ?_
   exact nl ⟨rfl,rfl,rfl,rfl,rfl,rfl,trivial⟩
 ·refine qm ?_
  refine AL_jk 7 16 (vb (((decide ((r : Int) ≥ 0)) && (decide ((r : Int) ≤ 1114111))) && ((decide ((r : Int) < 55296)) || (decide ((r : Int) > 57343))))) [(8,_),(0,_),(2,_),(3,_),(4,_),(5,_),(9,_)] ⟨rfl,rfl,rfl,rfl,rfl,rfl,rfl,trivial⟩ ?_ ?_
  ·refine AL_split 9 _ rfl (fun hg9 => ?_) (fun hg9 => ?_)
   ·refine gm ?_
    refine qg (v := vb (decide ((r : Int) < 55296))) pI ?_
    refine gm ?_
    refine AL_jk 3 15 (vb ((decide ((r : Int) < 55296)) || (decide ((r : Int) > 57343)))) [(8,_),(0,_),(2,_),(3,_),(4,_),(5,_),(9,_),(10,_),(11,_),(12,_)] ⟨rfl,rfl,rfl,rfl,rfl,rfl,rfl,rfl,rfl,rfl,trivial⟩ ?_ ?_
    ·refine AL_split 12 _ rfl (fun hg12 => ?_) (fun hg12 => ?_)
     ·refine qz ?_
      refine qz ?_
      refine gk ?_
      refine AL_say (k := 15) (vb ((decide ((r : Int) < 55296)) || (decide ((r : Int) > 57343)))) rfl (by rw [hg12]; rfl) ?_
      refine AL_say (k := 12) (vb (decide ((r : Int) < 55296))) rfl (by rw [hg12]) ?_
      exact nl ⟨rfl,rfl,rfl,rfl,rfl,rfl,rfl,rfl,rfl,rfl,rfl,trivial⟩
     ·refine gm ?_
      refine qg (v := vb (decide ((r : Int) > 57343))) pI ?_
      refine gk ?_
      refine AL_say (k := 15) (vb ((decide ((r : Int) < 55296)) || (decide ((r : Int) > 57343)))) rfl (by rw [hg12]; rfl) ?_
      refine AL_say (k := 12) (vb (decide ((r : Int) < 55296))) rfl (by rw [hg12]) ?_
      exact nl ⟨rfl,rfl,rfl,rfl,rfl,rfl,rfl,rfl,rfl,rfl,rfl,trivial⟩
    ·refine qk ?_
     refine AL_say (k := 16) (vb (((decide ((r : Int) ≥ 0)) && (decide ((r : Int) ≤ 1114111))) && ((decide ((r : Int) < 55296)) || (decide ((r : Int) > 57343))))) rfl (by rw [hg9]; rfl) ?_
     refine AL_say (k := 9) (vb ((decide ((r : Int) ≥ 0)) && (decide ((r : Int) ≤ 1114111)))) rfl (by rw [hg9]) ?_
     exact nl ⟨rfl,rfl,rfl,rfl,rfl,rfl,rfl,rfl,trivial⟩
   ·refine qz ?_
    refine qz ?_
    refine qz ?_
    refine qy ?_
    refine qy ?_
    refine qz ?_
    refine qk ?_
    refine AL_say (k := 16) (vb (((decide ((r : Int) ≥ 0)) && (decide ((r : Int) ≤ 1114111))) && ((decide ((r : Int) < 55296)) || (decide ((r : Int) > 57343))))) rfl (by rw [hg9]; rfl) ?_
    refine AL_say (k := 9) (vb ((decide ((r : Int) ≥ 0)) && (decide ((r : Int) ≤ 1114111)))) rfl (by rw [hg9]) ?_
    exact nl ⟨rfl,rfl,rfl,rfl,rfl,rfl,rfl,rfl,trivial⟩
  ·refine qa ?_
   refine AL_keep [(0,_),(2,_)] ⟨rfl,rfl,trivial⟩ ?_
   refine AL_nil ?_
   refine AW_ret ?_
   exact ret_le2 (.inl rfl) rfl (by rfl) (.refl _)
theorem may117_ (r : Int) : PFn PR (.fn (.func 117) [] []) [.lit (.int .i64 r)] (.lit (.bool (mayF r))) := by
 refine PFn_of Go.Proofs.Tryd.func117 rfl (by rfl) Go.Proofs.Tryd.ntmps117 rfl (by simp) fun h => ?_
 refine AW_seq (AW_region rfl ?_)
 refine qa (v := vb false) ?_
 refine AL_nil (AW_seq (AW_region rfl ?_))
 refine qm ?_
 refine qp (v := vb (decide ((r : Int) ≥ 0))) pI ?_
 refine qm ?_
 refine AL_jk 3 8 (vb ((decide ((r : Int) ≥ 0)) && (decide ((r : Int) ≤ 1114111)))) [(0,_),(2,_),(3,_),(4,_),(5,_)] ⟨rfl,rfl,rfl,rfl,rfl,trivial⟩ ?_ ?_
 ·refine AL_split 5 _ rfl (fun hg5 => ?_) (fun hg5 => ?_)
  ·refine gm ?_
   refine qg (v := vb (decide ((r : Int) ≤ 1114111))) pI ?_
   refine qk ?_
   refine AL_say (k := 8) (vb ((decide ((r : Int) ≥ 0)) && (decide ((r : Int) ≤ 1114111)))) rfl (by rw [hg5]; rfl) ?_
   refine AL_say (k := 5) (vb (decide ((r : Int) ≥ 0))) rfl (by rw [hg5]) ?_
   exact nl ⟨rfl,rfl,rfl,rfl,rfl,rfl,trivial⟩
  ·refine qz ?_
   refine qz ?_
   refine qk ?_
   refine AL_say (k := 8) (vb ((decide ((r : Int) ≥ 0)) && (decide ((r : Int) ≤ 1114111)))) rfl (by rw [hg5]; rfl) ?_
   refine AL_say (k := 5) (vb (decide ((r : Int) ≥ 0))) rfl (by rw [hg5]) ?_
   exact nl ⟨rfl,rfl,rfl,rfl,rfl,rfl,trivial⟩
 ·refine qm ?_
  refine AL_jk 7 16 (vb (((decide ((r : Int) ≥ 0)) && (decide ((r : Int) ≤ 1114111))) && ((decide ((r : Int) < 55296)) || (decide ((r : Int) > 57343))))) [(8,_),(0,_),(2,_),(3,_),(4,_),(5,_),(9,_)] ⟨rfl,rfl,rfl,rfl,rfl,rfl,rfl,trivial⟩ ?_ ?_
  ·refine AL_split 9 _ rfl (fun hg9 => ?_) (fun hg9 => ?_)
   ·refine gm ?_
    refine qg (v := vb (decide ((r : Int) < 55296))) pI ?_
    refine gm ?_
    refine AL_jk 3 15 (vb ((decide ((r : Int) < 55296)) || (decide ((r : Int) > 57343)))) [(8,_),(0,_),(2,_),(3,_),(4,_),(5,_),(9,_),(10,_),(11,_),(12,_)] ⟨rfl,rfl,rfl,rfl,rfl,rfl,rfl,rfl,rfl,rfl,trivial⟩ ?_ ?_
    ·refine AL_split 12 _ rfl (fun hg12 => ?_) (fun hg12 => ?_)
     ·refine qz ?_
      refine qz ?_
      refine gk ?_
      refine AL_say (k := 15) (vb ((decide ((r : Int) < 55296)) || (decide ((r : Int) > 57343)))) rfl (by rw [hg12]; rfl) ?_
      refine AL_say (k := 12) (vb (decide ((r : Int) < 55296))) rfl (by rw [hg12]) ?_
      exact nl ⟨rfl,rfl,rfl,rfl,rfl,rfl,rfl,rfl,rfl,rfl,rfl,trivial⟩
     ·refine gm ?_
      refine qg (v := vb (decide ((r : Int) > 57343))) pI ?_
      refine gk ?_
      refine AL_say (k := 15) (vb ((decide ((r : Int) < 55296)) || (decide ((r : Int) > 57343)))) rfl (by rw [hg12]; rfl) ?_
      refine AL_say (k := 12) (vb (decide ((r : Int) < 55296))) rfl (by rw [hg12]) ?_
      exact nl ⟨rfl,rfl,rfl,rfl,rfl,rfl,rfl,rfl,rfl,rfl,rfl,trivial⟩
    ·refine qk ?_
     refine AL_say (k := 16) (vb (((decide ((r : Int) ≥ 0)) && (decide ((r : Int) ≤ 1114111))) && ((decide ((r : Int) < 55296)) || (decide ((r : Int) > 57343))))) rfl (by rw [hg9]; rfl) ?_
     refine AL_say (k := 9) (vb ((decide ((r : Int) ≥ 0)) && (decide ((r : Int) ≤ 1114111)))) rfl (by rw [hg9]) ?_
     exact nl ⟨rfl,rfl,rfl,rfl,rfl,rfl,rfl,rfl,trivial⟩
   ·refine qz ?_
    refine qz ?_
    refine qz ?_
    refine qy ?_
    refine qy ?_
    refine qz ?_
    refine qk ?_
    refine AL_say (k := 16) (vb (((decide ((r : Int) ≥ 0)) && (decide ((r : Int) ≤ 1114111))) && ((decide ((r : Int) < 55296)) || (decide ((r : Int) > 57343))))) rfl (by rw [hg9]; rfl) ?_
    refine AL_say (k := 9) (vb ((decide ((r : Int) ≥ 0)) && (decide ((r : Int) ≤ 1114111)))) rfl (by rw [hg9]) ?_
    exact nl ⟨rfl,rfl,rfl,rfl,rfl,rfl,rfl,rfl,trivial⟩
  ·refine qa ?_
   refine AL_keep [(0,_),(2,_)] ⟨rfl,rfl,trivial⟩ ?_
   refine AL_nil ?_
   refine AW_ret ?_
   exact ret_le2 (.inl rfl) rfl (by rfl) (.refl _)
def sizeF (r : Int) : Int := if r < 128 then 1 else if r < 2048 then 2 else if r < 65536 then 3 else 4
theorem size_ (r : Int) : PFn PR (.fn (.func 111) [] []) [.lit (.int .i64 r)] (.lit (.int .i64 (sizeF r))) := by
 refine PFn_of Go.Proofs.Tryd.func111 rfl (by rfl) Go.Proofs.Tryd.ntmps111 rfl (by simp) fun h => ?_
 refine AW_seq (AW_region rfl ?_)
 refine qa (v := vi 0) ?_
 refine AL_nil (AW_seq (AW_block (AW_seq (AW_region rfl ?_))))
 refine qm ?_
 refine qp (v := vb (decide ((r : Int) < 128))) pI ?_
 refine qa ?_
 refine AL_keep [(0,_),(2,_),(3,_)] ⟨rfl,rfl,rfl,trivial⟩ ?_
 refine AL_nil ?_
 refine AW_cond _ rfl (fun hc1 => ?_) (fun hc1 => ?_)
 ·replace hc1 := of_decide_eq_true hc1
  refine AW_seq (AW_region rfl ?_)
  refine qa (v := vi 1) ?_
  refine AL_nil ?_
  refine AW_ret ?_
  exact ret_le2 (.inl rfl) rfl (by simp [sizeF, *]) (.refl _)
 ·replace hc1 := of_decide_eq_false hc1
  refine AW_seq (AW_region rfl ?_)
  refine qm ?_
  refine qp (v := vb (decide ((r : Int) < 2048))) pI ?_
  refine qa ?_
  refine AL_keep [(0,_),(2,_),(6,_)] ⟨rfl,rfl,rfl,trivial⟩ ?_
  refine AL_nil ?_
  refine AW_cond _ rfl (fun hc3 => ?_) (fun hc3 => ?_)
  ·replace hc3 := of_decide_eq_true hc3
   refine AW_seq (AW_region rfl ?_)
   refine qa (v := vi 2) ?_
   refine AL_nil ?_
   refine AW_ret ?_
   exact ret_le2 (.inl rfl) rfl (by simp [sizeF, *]) (.refl _)
  ·replace hc3 := of_decide_eq_false hc3
   refine AW_seq (AW_region rfl ?_)
   refine qm ?_
   refine qp (v := vb (decide ((r : Int) < 65536))) pI ?_
   refine qa ?_
   refine AL_keep [(0,_),(2,_),(9,_)] ⟨rfl,rfl,rfl,trivial⟩ ?_
   refine AL_nil ?_
   refine AW_cond _ rfl (fun hc5 => ?_) (fun hc5 => ?_)
   ·replace hc5 := of_decide_eq_true hc5
    refine AW_seq (AW_region rfl ?_)
    refine qa (v := vi 3) ?_
    refine AL_nil ?_
    refine AW_ret ?_
    exact ret_le2 (.inl rfl) rfl (by simp [sizeF, *]) (.refl _)
   ·replace hc5 := of_decide_eq_false hc5
    refine AW_skip (AW_seq (AW_region rfl ?_))
    refine qa (v := vi 4) ?_
    refine AL_nil ?_
    refine AW_ret ?_
    exact ret_le2 (.inl rfl) rfl (by simp [sizeF, *]) (.refl _)
def fewF : List Rule → Bool
 | [] => true
 | r :: l => if 20 < r.body.length then false else fewF l
theorem few_ (l : List Rule) (hl : l.length ≤ 1048576) : PFn PR (.fn (.func 6) [] []) [.sl .any 13 (l.map eRule)] (.lit (.bool (fewF l && decide (l.length ≤ 16)))) := by
 refine PFn_of Go.Proofs.Tryd.func6 rfl (by rfl) Go.Proofs.Tryd.ntmps6 rfl (by simp) fun h => ?_
 refine AW_seq (AW_region rfl ?_)
 refine qa (v := vb false) ?_
 refine AL_nil (AW_seq (AW_seq (AW_region rfl ?_)))
 refine qa (v := vi 0) ?_
 refine AL_nil (AW_block ?_)
 refine AW_iter (fun (i : Nat) => [(3, .lit (.int .i64 ((i : Nat) : Int))), (0, .sl .any 13 (l.map eRule)), (2, .lit (.bool false))]) (fun (i : Nat) => h) (fun (i : Nat) => i ≤ l.length ∧ fewF l = fewF (l.drop i)) (fun (i : Nat) => l.length - i) (0) ⟨rfl, rfl, rfl, trivial⟩ rfl (⟨by omega, rfl⟩) ?_
 rintro i ⟨hIi, hSi⟩
 refine AW_seq (AW_seq (AW_region rfl ?_))
 refine qm ?_
 refine qm ?_
 refine qp (v := vi (l.length : Int)) (PO_lenM rfl un22 rfl) ?_
 refine qp (v := vb (decide ((((i : Nat) : Int) : Int) < (l.length : Int)))) pI ?_
 refine AL_keep [(3,_),(0,_),(2,_),(7,_)] ⟨rfl,rfl,rfl,rfl,trivial⟩ ?_
 refine AL_nil ?_
 refine AW_cond _ rfl (fun hc0 => ?_) (fun hc0 => ?_)
 ·replace hc0 := of_decide_eq_true hc0
  obtain ⟨r, hrr, hdr, hmr⟩ := drop_at (l := l) (i := i) (by omega)
  rw [hdr, fewF] at hSi
  refine AW_skip (AW_seq (AW_block (AW_seq (AW_region rfl ?_))))
  refine qm ?_
  refine qm ?_
  refine qp (v := .ip (eRule r)) (PO_indexAddr rfl un22 ty46 rfl rfl (by first | decide | omega) (mget hrr)) ?_
  refine qp (v := .ip (List.drop 12 (eRule r))) (PO_fieldAddr rfl f46_1 rfl) ?_
  refine qp (v := vL r.body) (PO_load rfl ty44 rfl rfl) ?_
  refine qp (v := vi (r.body.length : Int)) (PO_lenM rfl un44 rfl) ?_
  refine qp (v := vb (decide (((r.body.length : Int) : Int) > 20))) pI ?_
  refine AL_keep [(3,_),(0,_),(2,_),(16,_)] ⟨rfl,rfl,rfl,rfl,trivial⟩ ?_
  refine AL_nil ?_
  refine AW_cond _ rfl (fun hc4 => ?_) (fun hc4 => ?_)
  ·replace hc4 := of_decide_eq_true hc4
   rw [if_pos (by omega)] at hSi
   refine AW_seq (AW_region rfl ?_)
   refine qa (v := vb false) ?_
   refine AL_nil ?_
   refine AW_ret ?_
   exact ret_le2 (.inl rfl) rfl (by rw [hSi]; rfl) (.refl _)
  ·replace hc4 := of_decide_eq_false hc4
   rw [if_neg (by omega)] at hSi
   refine AW_skip (AW_region rfl ?_)
   refine qm ?_
   refine qp (v := vn (i + 1)) (PO_inc rfl rfl rfl (by first | omega | simp_all; omega)) ?_
   refine qa ?_
   refine AL_keep [(3,_),(0,_),(2,_)] ⟨rfl,rfl,rfl,trivial⟩ ?_
   refine AL_nil ?_
   exact ⟨i + 1, ⟨by omega, hSi⟩, by omega, ⟨rfl, ⟨rfl, rfl, rfl, trivial⟩, rfl, rfl, rfl⟩⟩
 ·replace hc0 := of_decide_eq_false hc0
  rw [drop_end (l := l) (i := i) (by omega), fewF] at hSi
  refine AW_exit ?_
  refine AW_seq (AW_region rfl ?_)
  refine qm ?_
  refine qp (v := vi (l.length : Int)) (PO_lenM rfl un22 rfl) ?_
  refine qp (v := vb (decide (((l.length : Int) : Int) ≤ 16))) pI ?_
  refine qa ?_
  refine AL_keep [(3,_),(0,_),(2,_)] ⟨rfl,rfl,rfl,trivial⟩ ?_
  refine AL_nil ?_
  refine AW_ret ?_
  exact ret_le2 (.inl rfl) rfl (by rw [hSi]; simp; omega) (.refl _)
def atF (t : Term) : List Term → Int → Int
 | [], _ => -1
 | x :: l, i => if x = t then i else atF t l (i + 1)
theorem at_ (own : Own) (l : List Term) (t : Term) (hl : l.length ≤ 4611686018427387904) : PFn PR (.fn (.func 12) [] []) [.sl own 3 (l.map eTerm), .agg (eTerm t)] (.lit (.int .i64 (atF t l 0))) := by
 refine PFn_of Go.Proofs.Tryd.func12 rfl (by rfl) Go.Proofs.Tryd.ntmps12 rfl (by simp) fun h => ?_
 refine AW_seq (AW_region rfl ?_)
 refine qp (v := .ip (eTerm t)) (PO_boxA rfl rfl) ?_
 refine qa (v := vi 0) ?_
 refine AL_nil (AW_seq (AW_seq (AW_region rfl ?_)))
 refine qa (v := vi 0) ?_
 refine AL_nil (AW_block ?_)
 refine AW_iter (fun (i : Nat) => [(5, .lit (.int .i64 ((i : Nat) : Int))), (0, .sl own 3 (l.map eTerm)), (3, .ip (eTerm t)), (4, .lit (.int .i64 0))]) (fun (i : Nat) => h) (fun (i : Nat) => i ≤ l.length ∧ atF t l 0 = atF t (l.drop i) i) (fun (i : Nat) => l.length - i) (0) ⟨rfl, rfl, rfl, rfl, trivial⟩ rfl (⟨by omega, rfl⟩) ?_
 rintro i ⟨hIi, hSi⟩
 refine AW_seq (AW_seq (AW_region rfl ?_))
 refine qm ?_
 refine qm ?_
 refine qp (v := vi (l.length : Int)) (PO_lenM rfl un37 rfl) ?_
 refine qp (v := vb (decide ((((i : Nat) : Int) : Int) < (l.length : Int)))) pI ?_
 refine AL_keep [(5,_),(0,_),(3,_),(4,_),(9,_)] ⟨rfl,rfl,rfl,rfl,rfl,trivial⟩ ?_
 refine AL_nil ?_
 refine AW_cond _ rfl (fun hc0 => ?_) (fun hc0 => ?_)
 ·replace hc0 := of_decide_eq_true hc0
  obtain ⟨x, hrx, hdx, hmx⟩ := drop_at (l := l) (i := i) (by omega)
  rw [hdx, atF] at hSi
  refine AW_skip (AW_seq (AW_block (AW_seq ?_)))
  refine AW_draw 6 [.sl own 3 (l.map eTerm), .lit (.int .i64 ((i : Nat) : Int)), .ip (eTerm x), .agg (eTerm x), .agg (eTerm t), .lit (.bool (decide (x = t)))] [(5, .lit (.int .i64 ((i : Nat) : Int))), (0, .sl own 3 (l.map eTerm)), (3, .ip (eTerm t)), (4, .lit (.int .i64 0)), (17, .lit (.bool (decide (x = t))))] rfl hmixed (by kernel_rfl) rfl (by kernel_rfl) ⟨
   ⟨[(0, .sl own 3 (l.map eTerm))], ⟨.inr ⟨by kernel_rfl, rfl⟩, trivial⟩, .inl ⟨rfl, PO_move rfl rfl⟩⟩,
   ⟨[(5, .lit (.int .i64 ((i : Nat) : Int)))], ⟨.inr ⟨by kernel_rfl, rfl⟩, trivial⟩, .inl ⟨rfl, PO_move rfl rfl⟩⟩,
   ⟨[(12, .sl own 3 (l.map eTerm)), (13, .lit (.int .i64 ((i : Nat) : Int)))], ⟨.inl ⟨0, by kernel_rfl, rfl, rfl⟩, .inl ⟨1, by kernel_rfl, rfl, rfl⟩, trivial⟩, .inl ⟨rfl, PO_indexAddr rfl un37 ty25 rfl rfl (by first | decide | omega) (mget hrx)⟩⟩,
   ⟨[(14, .ip (eTerm x))], ⟨.inl ⟨2, by kernel_rfl, rfl, rfl⟩, trivial⟩, .inl ⟨rfl, PO_load rfl ty25 rfl rfl⟩⟩,
   ⟨[(3, .ip (eTerm t))], ⟨.inr ⟨by kernel_rfl, rfl⟩, trivial⟩, .inl ⟨rfl, PO_load rfl ty25 rfl rfl⟩⟩,
   ⟨[(15, .agg (eTerm x)), (16, .agg (eTerm t))], ⟨.inl ⟨3, by kernel_rfl, rfl, rfl⟩, .inl ⟨4, by kernel_rfl, rfl, rfl⟩, trivial⟩, .inl ⟨rfl, PO_eqv (PO_aggEq rfl eqm25 eg25 rfl rfl rfl rfl rfl rfl) (eTerm_eq _ _)⟩⟩,
   trivial⟩ ⟨.inr ⟨by kernel_rfl, rfl⟩, .inr ⟨by kernel_rfl, rfl⟩, .inr ⟨by kernel_rfl, rfl⟩, .inr ⟨by kernel_rfl, rfl⟩, .inl ⟨5, by decide, rfl, rfl⟩, trivial⟩ ?_
  refine AL_nil ?_
  refine AW_cond _ rfl (fun hc4 => ?_) (fun hc4 => ?_)
  ·replace hc4 := of_decide_eq_true hc4
   rw [if_pos hc4] at hSi
   refine AW_seq (AW_region rfl ?_)
   refine qm ?_
   refine qa ?_
   refine AL_keep [(5,_),(0,_),(3,_),(4,_)] ⟨rfl,rfl,rfl,rfl,trivial⟩ ?_
   refine AL_nil ?_
   refine AW_ret ?_
   exact ret_le2 (.inl rfl) rfl (by rw [hSi]) (.refl _)
  ·replace hc4 := of_decide_eq_false hc4
   rw [if_neg hc4] at hSi
   refine AW_skip (AW_region rfl ?_)
   refine qm ?_
   refine qp (v := vn (i + 1)) (PO_inc rfl rfl rfl (by first | omega | simp_all; omega)) ?_
   refine qa ?_
   refine AL_keep [(5,_),(0,_),(3,_),(4,_)] ⟨rfl,rfl,rfl,rfl,trivial⟩ ?_
   refine AL_nil ?_
   exact ⟨i + 1, ⟨by omega, hSi⟩, by omega, ⟨rfl, ⟨rfl, rfl, rfl, rfl, trivial⟩, rfl, rfl, rfl⟩⟩
 ·replace hc0 := of_decide_eq_false hc0
  rw [drop_end (l := l) (i := i) (by omega), atF] at hSi
  refine AW_exit ?_
  refine AW_seq (AW_region rfl ?_)
  refine qa (v := vi (-1)) ?_
  refine AL_nil ?_
  refine AW_ret ?_
  exact ret_le2 (.inl rfl) rfl (by rw [hSi]) (.refl _)
def inF (s : ByteArray) : List ByteArray → Bool
 | [] => false
 | x :: l => if x = s then true else inF s l
theorem in34_ (own : Own) (l : List ByteArray) (s : ByteArray) (hl : l.length ≤ 4611686018427387904) : PFn PR (.fn (.func 34) [] []) [.sl own 1 (l.map eStr), .lit (.string s)] (.lit (.bool (inF s l))) := by
 refine PFn_of Go.Proofs.Tryd.func34 rfl (by rfl) Go.Proofs.Tryd.ntmps34 rfl (by simp) fun h => ?_
 refine AW_seq (AW_region rfl ?_)
 refine qa (v := vb false) ?_
 refine AL_nil (AW_seq (AW_seq (AW_region rfl ?_)))
 refine qa (v := vi 0) ?_
 refine AL_nil (AW_block ?_)
 refine AW_iter (fun (i : Nat) => [(5, .lit (.int .i64 ((i : Nat) : Int))), (0, .sl own 1 (l.map eStr)), (1, .lit (.string s)), (4, .lit (.bool false))]) (fun (i : Nat) => h) (fun (i : Nat) => i ≤ l.length ∧ inF s l = inF s (l.drop i)) (fun (i : Nat) => l.length - i) (0) ⟨rfl, rfl, rfl, rfl, trivial⟩ rfl (⟨by omega, rfl⟩) ?_
 rintro i ⟨hIi, hSi⟩
 refine AW_seq (AW_seq (AW_region rfl ?_))
 refine qm ?_
 refine qm ?_
 refine qp (v := vi (l.length : Int)) (PO_lenM rfl un90 rfl) ?_
 refine qp (v := vb (decide ((((i : Nat) : Int) : Int) < (l.length : Int)))) pI ?_
 refine AL_keep [(5,_),(0,_),(1,_),(4,_),(9,_)] ⟨rfl,rfl,rfl,rfl,rfl,trivial⟩ ?_
 refine AL_nil ?_
 refine AW_cond _ rfl (fun hc0 => ?_) (fun hc0 => ?_)
 ·replace hc0 := of_decide_eq_true hc0
  obtain ⟨x, hrx, hdx, hmx⟩ := drop_at (l := l) (i := i) (by omega)
  rw [hdx, inF] at hSi
  refine AW_skip (AW_seq (AW_block (AW_seq (AW_region rfl ?_))))
  refine qm ?_
  refine qm ?_
  refine qp (v := .ip (eStr x)) (PO_indexAddr rfl un90 ty9 rfl rfl (by first | decide | omega) (mget hrx)) ?_
  refine qp (v := vs x) (PO_load rfl ty9 rfl rfl) ?_
  refine qm ?_
  refine qp (v := vb (decide (x = s))) (PO_str rfl rfl rfl rfl) ?_
  refine AL_keep [(5,_),(0,_),(1,_),(4,_),(17,_)] ⟨rfl,rfl,rfl,rfl,rfl,trivial⟩ ?_
  refine AL_nil ?_
  refine AW_cond _ rfl (fun hc4 => ?_) (fun hc4 => ?_)
  ·replace hc4 := of_decide_eq_true hc4
   rw [if_pos hc4] at hSi
   refine AW_seq (AW_region rfl ?_)
   refine qa (v := vb true) ?_
   refine AL_nil ?_
   refine AW_ret ?_
   exact ret_le2 (.inl rfl) rfl (by rw [hSi]) (.refl _)
  ·replace hc4 := of_decide_eq_false hc4
   rw [if_neg hc4] at hSi
   refine AW_skip (AW_region rfl ?_)
   refine qm ?_
   refine qp (v := vn (i + 1)) (PO_inc rfl rfl rfl (by first | omega | simp_all; omega)) ?_
   refine qa ?_
   refine AL_keep [(5,_),(0,_),(1,_),(4,_)] ⟨rfl,rfl,rfl,rfl,trivial⟩ ?_
   refine AL_nil ?_
   exact ⟨i + 1, ⟨by omega, hSi⟩, by omega, ⟨rfl, ⟨rfl, rfl, rfl, rfl, trivial⟩, rfl, rfl, rfl⟩⟩
 ·replace hc0 := of_decide_eq_false hc0
  rw [drop_end (l := l) (i := i) (by omega), inF] at hSi
  refine AW_exit ?_
  refine AW_seq (AW_region rfl ?_)
  refine qa (v := vb false) ?_
  refine AL_nil ?_
  refine AW_ret ?_
  exact ret_le2 (.inl rfl) rfl (by rw [hSi]) (.refl _)
def negB : List Lt → Bool
 | [] => false
 | x :: b => if x.kind = 2 then true else negB b
def negF : List Rule → Bool
 | [] => false
 | r :: l => if negB r.body = true then true else negF l
theorem neg17_ (l : List Rule) (hl : okRs l) : PFn PR (.fn (.func 17) [] []) [.sl .any 13 (l.map eRule)] (.lit (.bool (negF l))) := by
 have hl1 := hl.1
 refine PFn_of Go.Proofs.Tryd.func17 rfl (by rfl) Go.Proofs.Tryd.ntmps17 rfl (by simp) fun h => ?_
 refine AW_seq (AW_region rfl ?_)
 refine qa (v := vb false) ?_
 refine AL_nil (AW_seq (AW_seq (AW_region rfl ?_)))
 refine qa (v := vi 0) ?_
 refine AL_nil (AW_block ?_)
 refine AW_iter (fun (i : Nat) => [(3, .lit (.int .i64 ((i : Nat) : Int))), (0, .sl .any 13 (l.map eRule)), (2, .lit (.bool false))]) (fun (i : Nat) => h) (fun (i : Nat) => i ≤ l.length ∧ negF l = negF (l.drop i)) (fun (i : Nat) => l.length - i) (0) ⟨rfl, rfl, rfl, trivial⟩ rfl (⟨by omega, rfl⟩) ?_
 rintro i ⟨hIi, hSi⟩
 refine AW_seq (AW_seq (AW_region rfl ?_))
 refine qm ?_
 refine qm ?_
 refine qp (v := vi (l.length : Int)) (PO_lenM rfl un22 rfl) ?_
 refine qp (v := vb (decide ((((i : Nat) : Int) : Int) < (l.length : Int)))) pI ?_
 refine AL_keep [(3,_),(0,_),(2,_),(8,_)] ⟨rfl,rfl,rfl,rfl,trivial⟩ ?_
 refine AL_nil ?_
 refine AW_cond _ rfl (fun hc0 => ?_) (fun hc0 => ?_)
 ·replace hc0 := of_decide_eq_true hc0
  obtain ⟨r, hrr, hdr, hmr⟩ := drop_at (l := l) (i := i) (by omega)
  rw [hdr, negF] at hSi
  have hbl := (hl.2 r hmr).2.1
  refine AW_skip (AW_seq (AW_block (AW_seq (AW_region rfl ?_))))
  refine qa (v := vi 0) ?_
  refine AL_nil (AW_block ?_)
  refine AW_iter (fun (k : Nat) => [(4, .lit (.int .i64 ((k : Nat) : Int))), (3, .lit (.int .i64 ((i : Nat) : Int))), (0, .sl .any 13 (l.map eRule)), (2, .lit (.bool false))]) (fun (k : Nat) => h) (fun (k : Nat) => k ≤ r.body.length ∧ negB r.body = negB (r.body.drop k)) (fun (k : Nat) => r.body.length - k) (0) ⟨rfl, rfl, rfl, rfl, trivial⟩ rfl (⟨by omega, rfl⟩) ?_
  rintro k ⟨hIk, hSk⟩
  refine AW_seq (AW_seq (AW_region rfl ?_))
  refine qm ?_
  refine qm ?_
  refine qm ?_
  refine qp (v := .ip (eRule r)) (PO_indexAddr rfl un22 ty46 rfl rfl (by first | decide | omega) (mget hrr)) ?_
  refine qp (v := .ip (List.drop 12 (eRule r))) (PO_fieldAddr rfl f46_1 rfl) ?_
  refine qp (v := vL r.body) (PO_load rfl ty44 rfl rfl) ?_
  refine qp (v := vi (r.body.length : Int)) (PO_lenM rfl un44 rfl) ?_
  refine qp (v := vb (decide ((((k : Nat) : Int) : Int) < (r.body.length : Int)))) pI ?_
  refine AL_keep [(4,_),(3,_),(0,_),(2,_),(18,_)] ⟨rfl,rfl,rfl,rfl,rfl,trivial⟩ ?_
  refine AL_nil ?_
  refine AW_cond _ rfl (fun hc2 => ?_) (fun hc2 => ?_)
  ·replace hc2 := of_decide_eq_true hc2
   obtain ⟨x, hrx, hdx, hmx⟩ := drop_at (l := r.body) (i := k) (by omega)
   rw [hdx, negB] at hSk
   refine AW_skip (AW_seq (AW_block (AW_seq (AW_region rfl ?_))))
   refine qm ?_
   refine qm ?_
   refine qp (v := .ip (eRule r)) (PO_indexAddr rfl un22 ty46 rfl rfl (by first | decide | omega) (mget hrr)) ?_
   refine qp (v := .ip (List.drop 12 (eRule r))) (PO_fieldAddr rfl f46_1 rfl) ?_
   refine qp (v := vL r.body) (PO_load rfl ty44 rfl rfl) ?_
   refine qm ?_
   refine qp (v := .ip (eLit x)) (PO_indexAddr rfl un44 ty68 rfl rfl (by first | decide | omega) (mget hrx)) ?_
   refine qp (v := .ip (List.drop 0 (eLit x))) (PO_fieldAddr rfl f68_0 rfl) ?_
   refine qp (v := vi x.kind) (PO_load rfl ty66 rfl rfl) ?_
   refine qp (v := vb (decide ((x.kind : Int) = 2))) pI ?_
   refine AL_keep [(4,_),(3,_),(0,_),(2,_),(30,_)] ⟨rfl,rfl,rfl,rfl,rfl,trivial⟩ ?_
   refine AL_nil ?_
   refine AW_cond _ rfl (fun hc7 => ?_) (fun hc7 => ?_)
   ·replace hc7 := of_decide_eq_true hc7
    rw [if_pos hc7] at hSk
    rw [if_pos hSk] at hSi
    refine AW_seq (AW_region rfl ?_)
    refine qa (v := vb true) ?_
    refine AL_nil ?_
    refine AW_ret ?_
    exact ret_le2 (.inl rfl) rfl (by rw [hSi]) (.refl _)
   ·replace hc7 := of_decide_eq_false hc7
    rw [if_neg hc7] at hSk
    refine AW_skip (AW_region rfl ?_)
    refine qm ?_
    refine qp (v := vn (k + 1)) (PO_inc rfl rfl rfl (by first | omega | simp_all; omega)) ?_
    refine qa ?_
    refine AL_keep [(4,_),(3,_),(0,_),(2,_)] ⟨rfl,rfl,rfl,rfl,trivial⟩ ?_
    refine AL_nil ?_
    exact ⟨k + 1, ⟨by omega, hSk⟩, by omega, ⟨rfl, ⟨rfl, rfl, rfl, rfl, trivial⟩, rfl, rfl, rfl⟩⟩
  ·replace hc2 := of_decide_eq_false hc2
   rw [drop_end (l := r.body) (i := k) (by omega), negB] at hSk
   rw [hSk, if_neg (by simp)] at hSi
   refine AW_exit ?_
   refine AW_region rfl ?_
   refine qm ?_
   refine qp (v := vn (i + 1)) (PO_inc rfl rfl rfl (by first | omega | simp_all; omega)) ?_
   refine qa ?_
   refine AL_keep [(4,_),(3,_),(0,_),(2,_)] ⟨rfl,rfl,rfl,rfl,trivial⟩ ?_
   refine AL_nil ?_
   exact ⟨i + 1, ⟨by omega, hSi⟩, by omega, ⟨rfl, ⟨rfl, rfl, rfl, trivial⟩, rfl, rfl, rfl⟩⟩
 ·replace hc0 := of_decide_eq_false hc0
  rw [drop_end (l := l) (i := i) (by omega), negF] at hSi
  refine AW_exit ?_
  refine AW_seq (AW_region rfl ?_)
  refine qa (v := vb false) ?_
  refine AL_nil ?_
  refine AW_ret ?_
  exact ret_le2 (.inl rfl) rfl (by rw [hSi]) (.refl _)
theorem neg30_ (l : List Rule) (hl : okRs l) : PFn PR (.fn (.func 30) [] []) [.sl .any 13 (l.map eRule)] (.lit (.bool (negF l))) := by
 have hl1 := hl.1
 refine PFn_of Go.Proofs.Tryd.func30 rfl (by rfl) Go.Proofs.Tryd.ntmps30 rfl (by simp) fun h => ?_
 refine AW_seq (AW_region rfl ?_)
 refine qa (v := vb false) ?_
 refine AL_nil (AW_seq (AW_seq (AW_region rfl ?_)))
 refine qm ?_
 refine qp (v := vi (l.length : Int)) (PO_lenM rfl un22 rfl) ?_
 refine qm (v := vi 0) ?_
 refine AL_nil (AW_block ?_)
 refine AW_iter (fun (i : Nat) => [(9, .lit (.int .i64 ((i : Nat) : Int))), (2, .lit (.bool false)), (7, .sl .any 13 (l.map eRule)), (8, .lit (.int .i64 (l.length : Int)))]) (fun (i : Nat) => h) (fun (i : Nat) => i ≤ l.length ∧ negF l = negF (l.drop i)) (fun (i : Nat) => l.length - i) (0) ⟨rfl, rfl, rfl, rfl, trivial⟩ rfl (⟨by omega, rfl⟩) ?_
 rintro i ⟨hIi, hSi⟩
 refine AW_seq (AW_region rfl ?_)
 refine qp (v := vb (decide ((((i : Nat) : Int) : Int) < (l.length : Int)))) pI ?_
 refine AL_nil (AW_seq ?_)
 refine AW_cond _ rfl (fun hc0 => ?_) (fun hc0 => ?_)
 ·replace hc0 := of_decide_eq_true hc0
  obtain ⟨r, hrr, hdr, hmr⟩ := drop_at (l := l) (i := i) (by omega)
  rw [hdr, negF] at hSi
  have hbl := (hl.2 r hmr).2.1
  refine AW_skip (AW_seq (AW_block (AW_seq (AW_region rfl ?_))))
  refine qp (v := .ip (eRule r)) (PO_indexAddr rfl un22 ty46 rfl rfl (by first | decide | omega) (mget hrr)) ?_
  refine qp (v := .agg (eRule r)) (PO_load rfl ty46 rfl rfl) ?_
  refine AL_als rfl rfl rfl rfl rfl rfl al46 rfl rfl rfl rfl rfl ?_
  refine AL_keep [(9,_),(2,_),(7,_),(8,_),(4,_)] ⟨rfl,rfl,rfl,rfl,rfl,trivial⟩ ?_
  refine AL_nil (AW_seq (AW_region rfl ?_))
  refine qp (v := .ip (List.drop 12 (eRule r))) (PO_fieldAddr rfl f46_1 rfl) ?_
  refine qp (v := vL r.body) (PO_load rfl ty44 rfl rfl) ?_
  refine qp (v := vi (r.body.length : Int)) (PO_lenM rfl un44 rfl) ?_
  refine qm (v := vi 0) ?_
  refine AL_keep [(9,_),(2,_),(7,_),(8,_),(4,_),(14,_),(15,_),(16,_)] ⟨rfl,rfl,rfl,rfl,rfl,rfl,rfl,rfl,trivial⟩ ?_
  refine AL_nil (AW_block ?_)
  refine AW_iter (fun (k : Nat) => [(16, .lit (.int .i64 ((k : Nat) : Int))), (9, .lit (.int .i64 ((i : Nat) : Int))), (2, .lit (.bool false)), (7, .sl .any 13 (l.map eRule)), (8, .lit (.int .i64 (l.length : Int))), (14, .sl .any 21 (r.body.map eLit)), (15, .lit (.int .i64 (r.body.length : Int)))]) (fun (k : Nat) => h) (fun (k : Nat) => k ≤ r.body.length ∧ negB r.body = negB (r.body.drop k)) (fun (k : Nat) => r.body.length - k) (0) ⟨rfl, rfl, rfl, rfl, rfl, rfl, rfl, trivial⟩ rfl (⟨by omega, rfl⟩) ?_
  rintro k ⟨hIk, hSk⟩
  refine AW_seq (AW_region rfl ?_)
  refine qp (v := vb (decide ((((k : Nat) : Int) : Int) < (r.body.length : Int)))) pI ?_
  refine AL_nil (AW_seq ?_)
  refine AW_cond _ rfl (fun hc2 => ?_) (fun hc2 => ?_)
  ·replace hc2 := of_decide_eq_true hc2
   obtain ⟨x, hrx, hdx, hmx⟩ := drop_at (l := r.body) (i := k) (by omega)
   rw [hdx, negB] at hSk
   refine AW_skip (AW_seq (AW_block (AW_seq (AW_region rfl ?_))))
   refine qp (v := .ip (eLit x)) (PO_indexAddr rfl un44 ty68 rfl rfl (by first | decide | omega) (mget hrx)) ?_
   refine qp (v := .agg (eLit x)) (PO_load rfl ty68 rfl rfl) ?_
   refine AL_als rfl rfl rfl rfl rfl rfl al68 rfl rfl rfl rfl rfl ?_
   refine AL_keep [(16,_),(9,_),(2,_),(7,_),(8,_),(14,_),(15,_),(6,_)] ⟨rfl,rfl,rfl,rfl,rfl,rfl,rfl,rfl,trivial⟩ ?_
   refine AL_nil (AW_seq (AW_region rfl ?_))
   refine qp (v := .ip (List.drop 0 (eLit x))) (PO_fieldAddr rfl f68_0 rfl) ?_
   refine qp (v := vi x.kind) (PO_load rfl ty66 rfl rfl) ?_
   refine qp (v := vb (decide ((x.kind : Int) = 2))) pI ?_
   refine AL_keep [(16,_),(9,_),(2,_),(7,_),(8,_),(14,_),(15,_),(6,_),(22,_)] ⟨rfl,rfl,rfl,rfl,rfl,rfl,rfl,rfl,rfl,trivial⟩ ?_
   refine AL_nil ?_
   refine AW_cond _ rfl (fun hc7 => ?_) (fun hc7 => ?_)
   ·replace hc7 := of_decide_eq_true hc7
    rw [if_pos hc7] at hSk
    rw [if_pos hSk] at hSi
    refine AW_seq (AW_region rfl ?_)
    refine qa (v := vb true) ?_
    refine AL_nil ?_
    refine AW_ret ?_
    exact ret_le2 (.inl rfl) rfl (by rw [hSi]) (.refl _)
   ·replace hc7 := of_decide_eq_false hc7
    rw [if_neg hc7] at hSk
    refine AW_skip (AW_region rfl ?_)
    refine qp (v := vn (k + 1)) (PO_inc rfl rfl rfl (by first | omega | simp_all; omega)) ?_
    refine qm ?_
    refine AL_keep [(16,_),(9,_),(2,_),(7,_),(8,_),(14,_),(15,_),(6,_)] ⟨rfl,rfl,rfl,rfl,rfl,rfl,rfl,rfl,trivial⟩ ?_
    refine AL_nil ?_
    exact ⟨k + 1, ⟨by omega, hSk⟩, by omega, ⟨rfl, ⟨rfl, rfl, rfl, rfl, rfl, rfl, rfl, trivial⟩, rfl, rfl, rfl⟩⟩
  ·replace hc2 := of_decide_eq_false hc2
   rw [drop_end (l := r.body) (i := k) (by omega), negB] at hSk
   rw [hSk, if_neg (by simp)] at hSi
   refine AW_exit ?_
   refine AW_region rfl ?_
   refine qp (v := vn (i + 1)) (PO_inc rfl rfl rfl (by first | omega | simp_all; omega)) ?_
   refine qm ?_
   refine AL_keep [(16,_),(9,_),(2,_),(7,_),(8,_),(14,_),(15,_)] ⟨rfl,rfl,rfl,rfl,rfl,rfl,rfl,trivial⟩ ?_
   refine AL_nil ?_
   exact ⟨i + 1, ⟨by omega, hSi⟩, by omega, ⟨rfl, ⟨rfl, rfl, rfl, rfl, trivial⟩, rfl, rfl, rfl⟩⟩
 ·replace hc0 := of_decide_eq_false hc0
  rw [drop_end (l := l) (i := i) (by omega), negF] at hSi
  refine AW_exit ?_
  refine AW_seq (AW_region rfl ?_)
  refine qa (v := vb false) ?_
  refine AL_nil ?_
  refine AW_ret ?_
  exact ret_le2 (.inl rfl) rfl (by rw [hSi]) (.refl _)
def hangL (q : Term) (strict : Bool) : List Lt → Bool
 | [] => false
 | x :: b => if ((decide (x.kind = 1) && !strict) && (decide (x.pat.b.var ≠ ⟨#[]⟩) || decide (x.pat.b.term = q))) = true then true else if ((decide (x.kind = 2) && decide (x.pat.b.var = ⟨#[]⟩)) && decide (x.pat.b.term = q)) = true then true else hangL q strict b
def hangF (p q : Term) (strict : Bool) : List Rule → Bool
 | [] => false
 | r :: l => if (decide (r.head.b.var ≠ ⟨#[]⟩) || decide (r.head.b.term ≠ p)) = true then hangF p q strict l else if hangL q strict r.body = true then true else hangF p q strict l
theorem hang_ (l : List Rule) (p q : Term) (strict : Bool) (hl : okRs l) : PFn PR (.fn (.func 18) [] []) [.sl .any 13 (l.map eRule), .agg (eTerm p), .agg (eTerm q), .lit (.bool strict)] (.lit (.bool (hangF p q strict l))) := by
 have hl1 := hl.1
 refine PFn_of Go.Proofs.Tryd.func18 rfl (by rfl) Go.Proofs.Tryd.ntmps18 rfl (by simp) fun h => ?_
 refine AW_seq (AW_region rfl ?_)
 refine qp (v := .ip (eTerm p)) (PO_boxA rfl rfl) ?_
 refine qp (v := .ip (eTerm q)) (PO_boxA rfl rfl) ?_
 refine qa (v := vb false) ?_
 refine AL_nil (AW_seq (AW_seq (AW_region rfl ?_)))
 refine qa (v := vi 0) ?_
 refine AL_nil (AW_block ?_)
 refine AW_iter (fun (i : Nat) => [(9, .lit (.int .i64 ((i : Nat) : Int))), (0, .sl .any 13 (l.map eRule)), (3, .lit (.bool strict)), (5, .ip (eTerm p)), (6, .ip (eTerm q)), (8, .lit (.bool false))]) (fun (i : Nat) => h) (fun (i : Nat) => i ≤ l.length ∧ hangF p q strict l = hangF p q strict (l.drop i)) (fun (i : Nat) => l.length - i) (0) ⟨rfl, rfl, rfl, rfl, rfl, rfl, trivial⟩ rfl (⟨by omega, rfl⟩) ?_
 rintro i ⟨hIi, hSi⟩
 refine AW_seq (AW_seq (AW_region rfl ?_))
 refine qm ?_
 refine qm ?_
 refine qp (v := vi (l.length : Int)) (PO_lenM rfl un22 rfl) ?_
 refine qp (v := vb (decide ((((i : Nat) : Int) : Int) < (l.length : Int)))) pI ?_
 refine AL_keep [(9,_),(0,_),(3,_),(5,_),(6,_),(8,_),(15,_)] ⟨rfl,rfl,rfl,rfl,rfl,rfl,rfl,trivial⟩ ?_
 refine AL_nil ?_
 refine AW_cond _ rfl (fun hc0 => ?_) (fun hc0 => ?_)
 ·replace hc0 := of_decide_eq_true hc0
  obtain ⟨r, hrr, hdr, hmr⟩ := drop_at (l := l) (i := i) (by omega)
  rw [hdr, hangF] at hSi
  have hbl := (hl.2 r hmr).2.1
  refine AW_skip (AW_seq (AW_block (AW_seq (AW_seq ?_))))
  refine AW_then (fun σ => At σ 95 [(9, .lit (.int .i64 ((i : Nat) : Int))), (0, .sl .any 13 (l.map eRule)), (3, .lit (.bool strict)), (5, .ip (eTerm p)), (6, .ip (eTerm q)), (8, .lit (.bool false)), (36, .lit (.bool ((decide (r.head.b.var ≠ ⟨#[]⟩)) || (decide (r.head.b.term ≠ p)))))] h [] h) ?_ ?_
  ·rcases Bool.eq_false_or_eq_true (decide (r.head.b.var ≠ ⟨#[]⟩)) with hq4_0 | hq4_0
   ·refine AW_draw 19 [.sl .any 13 (l.map eRule), .lit (.int .i64 ((i : Nat) : Int)), .ip (eRule r), .ip (List.drop 0 (eRule r)), .ip (List.drop (1 * 4) (List.drop 0 (eRule r))), .ip (List.drop 0 (List.drop (1 * 4) (List.drop 0 (eRule r)))), .lit (.string r.head.b.var), .lit (.bool true), .lit (.bool true), .tup [], .tup [], .tup [], .tup [], .tup [], .tup [], .tup [], .tup [], .tup [], .lit (.bool true)] [(9, .lit (.int .i64 ((i : Nat) : Int))), (0, .sl .any 13 (l.map eRule)), (3, .lit (.bool strict)), (5, .ip (eTerm p)), (6, .ip (eTerm q)), (8, .lit (.bool false)), (36, .lit (.bool true))] rfl hmixed (by kernel_rfl) rfl (by kernel_rfl) ⟨
     ⟨[(0, .sl .any 13 (l.map eRule))], ⟨.inr ⟨by kernel_rfl, rfl⟩, trivial⟩, .inl ⟨rfl, PO_move rfl rfl⟩⟩,
     ⟨[(9, .lit (.int .i64 ((i : Nat) : Int)))], ⟨.inr ⟨by kernel_rfl, rfl⟩, trivial⟩, .inl ⟨rfl, PO_move rfl rfl⟩⟩,
     ⟨[(18, .sl .any 13 (l.map eRule)), (19, .lit (.int .i64 ((i : Nat) : Int)))], ⟨.inl ⟨0, by kernel_rfl, rfl, rfl⟩, .inl ⟨1, by kernel_rfl, rfl, rfl⟩, trivial⟩, .inl ⟨rfl, PO_indexAddr rfl un22 ty46 rfl rfl (by first | decide | omega) (mget hrr)⟩⟩,
     ⟨[(20, .ip (eRule r))], ⟨.inl ⟨2, by kernel_rfl, rfl, rfl⟩, trivial⟩, .inl ⟨rfl, PO_fieldAddr rfl f46_0 rfl⟩⟩,
     ⟨[(21, .ip (List.drop 0 (eRule r)))], ⟨.inl ⟨3, by kernel_rfl, rfl, rfl⟩, trivial⟩, .inl ⟨rfl, PO_indexAddr_arr (i := 1) rfl un43 ty41 rfl rfl (by decide) (by decide)⟩⟩,
     ⟨[(22, .ip (List.drop (1 * 4) (List.drop 0 (eRule r))))], ⟨.inl ⟨4, by kernel_rfl, rfl, rfl⟩, trivial⟩, .inl ⟨rfl, PO_fieldAddr rfl f41_0 rfl⟩⟩,
     ⟨[(23, .ip (List.drop 0 (List.drop (1 * 4) (List.drop 0 (eRule r)))))], ⟨.inl ⟨5, by kernel_rfl, rfl, rfl⟩, trivial⟩, .inl ⟨rfl, PO_load rfl ty9 rfl rfl⟩⟩,
     ⟨[(24, .lit (.string r.head.b.var))], ⟨.inl ⟨6, by kernel_rfl, rfl, rfl⟩, trivial⟩, .inl ⟨rfl, PO_eqv (PO_str rfl rfl rfl rfl) hq4_0⟩⟩,
     ⟨[(25, .lit (.bool true))], ⟨.inl ⟨7, by kernel_rfl, rfl, rfl⟩, trivial⟩, .inl ⟨rfl, PO_move rfl rfl⟩⟩,
     ⟨[(26, .lit (.bool true))], ⟨.inl ⟨8, by kernel_rfl, rfl, rfl⟩, trivial⟩, .inr ⟨⟨26, rfl, .inl ⟨true, rfl, rfl⟩⟩, rfl⟩⟩,
     ⟨[(26, .lit (.bool true))], ⟨.inl ⟨8, by kernel_rfl, rfl, rfl⟩, trivial⟩, .inr ⟨⟨26, rfl, .inl ⟨true, rfl, rfl⟩⟩, rfl⟩⟩,
     ⟨[(26, .lit (.bool true))], ⟨.inl ⟨8, by kernel_rfl, rfl, rfl⟩, trivial⟩, .inr ⟨⟨26, rfl, .inl ⟨true, rfl, rfl⟩⟩, rfl⟩⟩,
     ⟨[(26, .lit (.bool true))], ⟨.inl ⟨8, by kernel_rfl, rfl, rfl⟩, trivial⟩, .inr ⟨⟨26, rfl, .inl ⟨true, rfl, rfl⟩⟩, rfl⟩⟩,
     ⟨[(26, .lit (.bool true))], ⟨.inl ⟨8, by kernel_rfl, rfl, rfl⟩, trivial⟩, .inr ⟨⟨26, rfl, .inl ⟨true, rfl, rfl⟩⟩, rfl⟩⟩,
     ⟨[(26, .lit (.bool true))], ⟨.inl ⟨8, by kernel_rfl, rfl, rfl⟩, trivial⟩, .inr ⟨⟨26, rfl, .inl ⟨true, rfl, rfl⟩⟩, rfl⟩⟩,
     ⟨[(26, .lit (.bool true))], ⟨.inl ⟨8, by kernel_rfl, rfl, rfl⟩, trivial⟩, .inr ⟨⟨26, rfl, .inl ⟨true, rfl, rfl⟩⟩, rfl⟩⟩,
     ⟨[(26, .lit (.bool true))], ⟨.inl ⟨8, by kernel_rfl, rfl, rfl⟩, trivial⟩, .inr ⟨⟨26, rfl, .inl ⟨true, rfl, rfl⟩⟩, rfl⟩⟩,
     ⟨[(26, .lit (.bool true))], ⟨.inl ⟨8, by kernel_rfl, rfl, rfl⟩, trivial⟩, .inr ⟨⟨26, rfl, .inl ⟨true, rfl, rfl⟩⟩, rfl⟩⟩,
     ⟨[(26, .lit (.bool true)), (35, .tup [])], ⟨.inl ⟨8, by kernel_rfl, rfl, rfl⟩, .inl ⟨17, by kernel_rfl, rfl, rfl⟩, trivial⟩, .inl ⟨rfl, PO_pick rfl rfl rfl⟩⟩,
     trivial⟩ ⟨.inr ⟨by kernel_rfl, rfl⟩, .inr ⟨by kernel_rfl, rfl⟩, .inr ⟨by kernel_rfl, rfl⟩, .inr ⟨by kernel_rfl, rfl⟩, .inr ⟨by kernel_rfl, rfl⟩, .inr ⟨by kernel_rfl, rfl⟩, .inl ⟨18, by decide, rfl, rfl⟩, trivial⟩ ?_
    refine AL_say (k := 36) (vb ((decide (r.head.b.var ≠ ⟨#[]⟩)) || (decide (r.head.b.term ≠ p)))) rfl (by simp only [hq4_0, Bool.true_and, Bool.false_and, Bool.true_or, Bool.false_or]) ?_
    refine AL_nil ?_
    exact ⟨rfl, ⟨rfl, rfl, rfl, rfl, rfl, rfl, rfl, trivial⟩, rfl, rfl, rfl⟩
   ·refine AW_draw 19 [.sl .any 13 (l.map eRule), .lit (.int .i64 ((i : Nat) : Int)), .ip (eRule r), .ip (List.drop 0 (eRule r)), .ip (List.drop (1 * 4) (List.drop 0 (eRule r))), .ip (List.drop 0 (List.drop (1 * 4) (List.drop 0 (eRule r)))), .lit (.string r.head.b.var), .lit (.bool false), .lit (.bool false), .sl .any 13 (l.map eRule), .lit (.int .i64 ((i : Nat) : Int)), .ip (eRule r), .ip (List.drop 0 (eRule r)), .ip (List.drop (1 * 4) (List.drop 0 (eRule r))), .ip (List.drop 1 (List.drop (1 * 4) (List.drop 0 (eRule r)))), .agg (eTerm r.head.b.term), .agg (eTerm p), .lit (.bool (decide (r.head.b.term ≠ p))), .lit (.bool (decide (r.head.b.term ≠ p)))] [(9, .lit (.int .i64 ((i : Nat) : Int))), (0, .sl .any 13 (l.map eRule)), (3, .lit (.bool strict)), (5, .ip (eTerm p)), (6, .ip (eTerm q)), (8, .lit (.bool false)), (36, .lit (.bool (decide (r.head.b.term ≠ p))))] rfl hmixed (by kernel_rfl) rfl (by kernel_rfl) ⟨
     ⟨[(0, .sl .any 13 (l.map eRule))], ⟨.inr ⟨by kernel_rfl, rfl⟩, trivial⟩, .inl ⟨rfl, PO_move rfl rfl⟩⟩,
     ⟨[(9, .lit (.int .i64 ((i : Nat) : Int)))], ⟨.inr ⟨by kernel_rfl, rfl⟩, trivial⟩, .inl ⟨rfl, PO_move rfl rfl⟩⟩,
     ⟨[(18, .sl .any 13 (l.map eRule)), (19, .lit (.int .i64 ((i : Nat) : Int)))], ⟨.inl ⟨0, by kernel_rfl, rfl, rfl⟩, .inl ⟨1, by kernel_rfl, rfl, rfl⟩, trivial⟩, .inl ⟨rfl, PO_indexAddr rfl un22 ty46 rfl rfl (by first | decide | omega) (mget hrr)⟩⟩,
     ⟨[(20, .ip (eRule r))], ⟨.inl ⟨2, by kernel_rfl, rfl, rfl⟩, trivial⟩, .inl ⟨rfl, PO_fieldAddr rfl f46_0 rfl⟩⟩,
     ⟨[(21, .ip (List.drop 0 (eRule r)))], ⟨.inl ⟨3, by kernel_rfl, rfl, rfl⟩, trivial⟩, .inl ⟨rfl, PO_indexAddr_arr (i := 1) rfl un43 ty41 rfl rfl (by decide) (by decide)⟩⟩,
     ⟨[(22, .ip (List.drop (1 * 4) (List.drop 0 (eRule r))))], ⟨.inl ⟨4, by kernel_rfl, rfl, rfl⟩, trivial⟩, .inl ⟨rfl, PO_fieldAddr rfl f41_0 rfl⟩⟩,
     ⟨[(23, .ip (List.drop 0 (List.drop (1 * 4) (List.drop 0 (eRule r)))))], ⟨.inl ⟨5, by kernel_rfl, rfl, rfl⟩, trivial⟩, .inl ⟨rfl, PO_load rfl ty9 rfl rfl⟩⟩,
     ⟨[(24, .lit (.string r.head.b.var))], ⟨.inl ⟨6, by kernel_rfl, rfl, rfl⟩, trivial⟩, .inl ⟨rfl, PO_eqv (PO_str rfl rfl rfl rfl) hq4_0⟩⟩,
     ⟨[(25, .lit (.bool false))], ⟨.inl ⟨7, by kernel_rfl, rfl, rfl⟩, trivial⟩, .inl ⟨rfl, PO_move rfl rfl⟩⟩,
     ⟨[(0, .sl .any 13 (l.map eRule)), (26, .lit (.bool false))], ⟨.inr ⟨by kernel_rfl, rfl⟩, .inl ⟨8, by kernel_rfl, rfl, rfl⟩, trivial⟩, .inl ⟨⟨26, rfl, .inl ⟨false, rfl, rfl⟩⟩, PO_move rfl rfl⟩⟩,
     ⟨[(9, .lit (.int .i64 ((i : Nat) : Int))), (26, .lit (.bool false))], ⟨.inr ⟨by kernel_rfl, rfl⟩, .inl ⟨8, by kernel_rfl, rfl, rfl⟩, trivial⟩, .inl ⟨⟨26, rfl, .inl ⟨false, rfl, rfl⟩⟩, PO_move rfl rfl⟩⟩,
     ⟨[(27, .sl .any 13 (l.map eRule)), (28, .lit (.int .i64 ((i : Nat) : Int))), (26, .lit (.bool false))], ⟨.inl ⟨9, by kernel_rfl, rfl, rfl⟩, .inl ⟨10, by kernel_rfl, rfl, rfl⟩, .inl ⟨8, by kernel_rfl, rfl, rfl⟩, trivial⟩, .inl ⟨⟨26, rfl, .inl ⟨false, rfl, rfl⟩⟩, PO_indexAddr rfl un22 ty46 rfl rfl (by first | decide | omega) (mget hrr)⟩⟩,
     ⟨[(29, .ip (eRule r)), (26, .lit (.bool false))], ⟨.inl ⟨11, by kernel_rfl, rfl, rfl⟩, .inl ⟨8, by kernel_rfl, rfl, rfl⟩, trivial⟩, .inl ⟨⟨26, rfl, .inl ⟨false, rfl, rfl⟩⟩, PO_fieldAddr rfl f46_0 rfl⟩⟩,
     ⟨[(30, .ip (List.drop 0 (eRule r))), (26, .lit (.bool false))], ⟨.inl ⟨12, by kernel_rfl, rfl, rfl⟩, .inl ⟨8, by kernel_rfl, rfl, rfl⟩, trivial⟩, .inl ⟨⟨26, rfl, .inl ⟨false, rfl, rfl⟩⟩, PO_indexAddr_arr (i := 1) rfl un43 ty41 rfl rfl (by decide) (by decide)⟩⟩,
     ⟨[(31, .ip (List.drop (1 * 4) (List.drop 0 (eRule r)))), (26, .lit (.bool false))], ⟨.inl ⟨13, by kernel_rfl, rfl, rfl⟩, .inl ⟨8, by kernel_rfl, rfl, rfl⟩, trivial⟩, .inl ⟨⟨26, rfl, .inl ⟨false, rfl, rfl⟩⟩, PO_fieldAddr rfl f41_1 rfl⟩⟩,
     ⟨[(32, .ip (List.drop 1 (List.drop (1 * 4) (List.drop 0 (eRule r))))), (26, .lit (.bool false))], ⟨.inl ⟨14, by kernel_rfl, rfl, rfl⟩, .inl ⟨8, by kernel_rfl, rfl, rfl⟩, trivial⟩, .inl ⟨⟨26, rfl, .inl ⟨false, rfl, rfl⟩⟩, PO_load rfl ty25 rfl rfl⟩⟩,
     ⟨[(5, .ip (eTerm p)), (26, .lit (.bool false))], ⟨.inr ⟨by kernel_rfl, rfl⟩, .inl ⟨8, by kernel_rfl, rfl, rfl⟩, trivial⟩, .inl ⟨⟨26, rfl, .inl ⟨false, rfl, rfl⟩⟩, PO_load rfl ty25 rfl rfl⟩⟩,
     ⟨[(33, .agg (eTerm r.head.b.term)), (34, .agg (eTerm p)), (26, .lit (.bool false))], ⟨.inl ⟨15, by kernel_rfl, rfl, rfl⟩, .inl ⟨16, by kernel_rfl, rfl, rfl⟩, .inl ⟨8, by kernel_rfl, rfl, rfl⟩, trivial⟩, .inl ⟨⟨26, rfl, .inl ⟨false, rfl, rfl⟩⟩, PO_eqv (PO_aggNe rfl eqm25 eg25 rfl rfl rfl rfl rfl rfl) (eTerm_ne _ _)⟩⟩,
     ⟨[(26, .lit (.bool false)), (35, .lit (.bool (decide (r.head.b.term ≠ p))))], ⟨.inl ⟨8, by kernel_rfl, rfl, rfl⟩, .inl ⟨17, by kernel_rfl, rfl, rfl⟩, trivial⟩, .inl ⟨rfl, PO_pick rfl rfl rfl⟩⟩,
     trivial⟩ ⟨.inr ⟨by kernel_rfl, rfl⟩, .inr ⟨by kernel_rfl, rfl⟩, .inr ⟨by kernel_rfl, rfl⟩, .inr ⟨by kernel_rfl, rfl⟩, .inr ⟨by kernel_rfl, rfl⟩, .inr ⟨by kernel_rfl, rfl⟩, .inl ⟨18, by decide, rfl, rfl⟩, trivial⟩ ?_
    refine AL_say (k := 36) (vb ((decide (r.head.b.var ≠ ⟨#[]⟩)) || (decide (r.head.b.term ≠ p)))) rfl (by simp only [hq4_0, Bool.true_and, Bool.false_and, Bool.true_or, Bool.false_or]) ?_
    refine AL_nil ?_
    exact ⟨rfl, ⟨rfl, rfl, rfl, rfl, rfl, rfl, rfl, trivial⟩, rfl, rfl, rfl⟩
  ·intro σ hat
   refine AW_at hat ?_
   refine AW_cond _ rfl (fun hc4 => ?_) (fun hc4 => ?_)
   ·rw [if_pos hc4] at hSi
    refine AW_exit ?_
    refine AW_region rfl ?_
    refine qm ?_
    refine qp (v := vn (i + 1)) (PO_inc rfl rfl rfl (by first | omega | simp_all; omega)) ?_
    refine qa ?_
    refine AL_keep [(9,_),(0,_),(3,_),(5,_),(6,_),(8,_)] ⟨rfl,rfl,rfl,rfl,rfl,rfl,trivial⟩ ?_
    refine AL_nil ?_
    exact ⟨i + 1, ⟨by omega, hSi⟩, by omega, ⟨rfl, ⟨rfl, rfl, rfl, rfl, rfl, rfl, trivial⟩, rfl, rfl, rfl⟩⟩
   ·rw [if_neg (by rw [hc4]; simp)] at hSi
    refine AW_skip (AW_seq (AW_region rfl ?_))
    refine qa (v := vi 0) ?_
    refine AL_nil (AW_block ?_)
    refine AW_iter (fun (k : Nat) => [(10, .lit (.int .i64 ((k : Nat) : Int))), (9, .lit (.int .i64 ((i : Nat) : Int))), (0, .sl .any 13 (l.map eRule)), (3, .lit (.bool strict)), (5, .ip (eTerm p)), (6, .ip (eTerm q)), (8, .lit (.bool false))]) (fun (k : Nat) => h) (fun (k : Nat) => k ≤ r.body.length ∧ hangL q strict r.body = hangL q strict (r.body.drop k)) (fun (k : Nat) => r.body.length - k) (0) ⟨rfl, rfl, rfl, rfl, rfl, rfl, rfl, trivial⟩ rfl (⟨by omega, rfl⟩) ?_
    rintro k ⟨hIk, hSk⟩
    refine AW_seq (AW_seq (AW_region rfl ?_))
    refine qm ?_
    refine qm ?_
    refine qm ?_
    refine qp (v := .ip (eRule r)) (PO_indexAddr rfl un22 ty46 rfl rfl (by first | decide | omega) (mget hrr)) ?_
    refine qp (v := .ip (List.drop 12 (eRule r))) (PO_fieldAddr rfl f46_1 rfl) ?_
    refine qp (v := vL r.body) (PO_load rfl ty44 rfl rfl) ?_
    refine qp (v := vi (r.body.length : Int)) (PO_lenM rfl un44 rfl) ?_
    refine qp (v := vb (decide ((((k : Nat) : Int) : Int) < (r.body.length : Int)))) pI ?_
    refine AL_keep [(10,_),(9,_),(0,_),(3,_),(5,_),(6,_),(8,_),(44,_)] ⟨rfl,rfl,rfl,rfl,rfl,rfl,rfl,rfl,trivial⟩ ?_
    refine AL_nil ?_
    refine AW_cond _ rfl (fun hc2 => ?_) (fun hc2 => ?_)
    ·replace hc2 := of_decide_eq_true hc2
     obtain ⟨x, hrx, hdx, hmx⟩ := drop_at (l := r.body) (i := k) (by omega)
     rw [hdx, hangL] at hSk
     refine AW_skip (AW_seq (AW_block (AW_seq (AW_region rfl ?_))))
     refine qm ?_
     refine qm ?_
     refine qp (v := .ip (eRule r)) (PO_indexAddr rfl un22 ty46 rfl rfl (by first | decide | omega) (mget hrr)) ?_
     refine qp (v := .ip (List.drop 12 (eRule r))) (PO_fieldAddr rfl f46_1 rfl) ?_
     refine qp (v := vL r.body) (PO_load rfl ty44 rfl rfl) ?_
     refine qm ?_
     refine qp (v := .ip (eLit x)) (PO_indexAddr rfl un44 ty68 rfl rfl (by first | decide | omega) (mget hrx)) ?_
     refine qp (v := .agg (eLit x)) (PO_load rfl ty68 rfl rfl) ?_
     refine AL_als rfl rfl rfl rfl rfl rfl al68 rfl rfl rfl rfl rfl ?_
     refine AL_keep [(10,_),(9,_),(0,_),(3,_),(5,_),(6,_),(8,_),(11,_)] ⟨rfl,rfl,rfl,rfl,rfl,rfl,rfl,rfl,trivial⟩ ?_
     refine AL_nil (AW_seq (AW_seq (AW_region rfl ?_)))
     refine qp (v := .ip (List.drop 0 (eLit x))) (PO_fieldAddr rfl f68_0 rfl) ?_
     refine qp (v := vi x.kind) (PO_load rfl ty66 rfl rfl) ?_
     refine qp (v := vb (decide ((x.kind : Int) = 1))) pI ?_
     refine qm ?_
     refine AL_jk 3 61 (vb ((decide ((x.kind : Int) = 1)) && (!strict))) [(10,_),(9,_),(0,_),(3,_),(5,_),(6,_),(8,_),(11,_),(55,_),(56,_),(57,_),(58,_)] ⟨rfl,rfl,rfl,rfl,rfl,rfl,rfl,rfl,rfl,rfl,rfl,rfl,trivial⟩ ?_ ?_
     ·refine AL_split 58 _ rfl (fun hg58 => ?_) (fun hg58 => ?_)
      ·refine gm ?_
       refine qg (v := vb !strict) (PO_not (b := strict) rfl rfl) ?_
       refine qk ?_
       refine AL_say (k := 61) (vb ((decide ((x.kind : Int) = 1)) && (!strict))) rfl (by rw [hg58]; rfl) ?_
       refine AL_say (k := 58) (vb (decide ((x.kind : Int) = 1))) rfl (by rw [hg58]) ?_
       exact nl ⟨rfl,rfl,rfl,rfl,rfl,rfl,rfl,rfl,rfl,rfl,rfl,rfl,rfl,trivial⟩
      ·refine qz ?_
       refine qz ?_
       refine qk ?_
       refine AL_say (k := 61) (vb ((decide ((x.kind : Int) = 1)) && (!strict))) rfl (by rw [hg58]; rfl) ?_
       refine AL_say (k := 58) (vb (decide ((x.kind : Int) = 1))) rfl (by rw [hg58]) ?_
       exact nl ⟨rfl,rfl,rfl,rfl,rfl,rfl,rfl,rfl,rfl,rfl,rfl,rfl,rfl,trivial⟩
     ·refine qm ?_
      refine AL_jk 14 76 (vb (((decide ((x.kind : Int) = 1)) && (!strict)) && ((decide (x.pat.b.var ≠ ⟨#[]⟩)) || (decide (x.pat.b.term = q))))) [(61,_),(10,_),(9,_),(0,_),(3,_),(5,_),(6,_),(8,_),(11,_),(55,_),(56,_),(57,_),(58,_),(62,_)] ⟨rfl,rfl,rfl,rfl,rfl,rfl,rfl,rfl,rfl,rfl,rfl,rfl,rfl,rfl,trivial⟩ ?_ ?_
      ·refine AL_split 62 _ rfl (fun hg62 => ?_) (fun hg62 => ?_)
       ·refine qg (v := .ip (List.drop 1 (eLit x))) (PO_fieldAddr rfl f68_1 rfl) ?_
        refine qg (v := .ip (List.drop (1 * 4) (List.drop 1 (eLit x)))) (PO_indexAddr_arr (i := 1) rfl un43 ty41 rfl rfl (by decide) (by decide)) ?_
        refine qg (v := .ip (List.drop 0 (List.drop (1 * 4) (List.drop 1 (eLit x))))) (PO_fieldAddr rfl f41_0 rfl) ?_
        refine qg (v := vs x.pat.b.var) (PO_load rfl ty9 rfl rfl) ?_
        refine qg (v := vb (decide (x.pat.b.var ≠ ⟨#[]⟩))) (PO_str rfl rfl rfl rfl) ?_
        refine gm ?_
        refine AL_jk 7 75 (vb ((decide (x.pat.b.var ≠ ⟨#[]⟩)) || (decide (x.pat.b.term = q)))) [(61,_),(10,_),(9,_),(0,_),(3,_),(5,_),(6,_),(8,_),(11,_),(55,_),(56,_),(57,_),(58,_),(62,_),(63,_),(64,_),(65,_),(66,_),(67,_),(68,_)] ⟨rfl,rfl,rfl,rfl,rfl,rfl,rfl,rfl,rfl,rfl,rfl,rfl,rfl,rfl,rfl,rfl,rfl,rfl,rfl,rfl,trivial⟩ ?_ ?_
        ·refine AL_split 68 _ rfl (fun hg68 => ?_) (fun hg68 => ?_)
         ·refine qz ?_
          refine qz ?_
          refine qz ?_
          refine qz ?_
          refine qz ?_
          refine qz ?_
          refine gk ?_
          refine AL_say (k := 75) (vb ((decide (x.pat.b.var ≠ ⟨#[]⟩)) || (decide (x.pat.b.term = q)))) rfl (by rw [hg68]; rfl) ?_
          refine AL_say (k := 68) (vb (decide (x.pat.b.var ≠ ⟨#[]⟩))) rfl (by rw [hg68]) ?_
          exact nl ⟨rfl,rfl,rfl,rfl,rfl,rfl,rfl,rfl,rfl,rfl,rfl,rfl,rfl,rfl,rfl,rfl,rfl,rfl,rfl,rfl,rfl,trivial⟩
         ·refine qg (v := .ip (List.drop 1 (eLit x))) (PO_fieldAddr rfl f68_1 rfl) ?_
          refine qg (v := .ip (List.drop (1 * 4) (List.drop 1 (eLit x)))) (PO_indexAddr_arr (i := 1) rfl un43 ty41 rfl rfl (by decide) (by decide)) ?_
          refine qg (v := .ip (List.drop 1 (List.drop (1 * 4) (List.drop 1 (eLit x))))) (PO_fieldAddr rfl f41_1 rfl) ?_
          refine qg (v := .agg (eTerm x.pat.b.term)) (PO_load rfl ty25 rfl rfl) ?_
          refine qg (v := .agg (eTerm q)) (PO_load rfl ty25 rfl rfl) ?_
          refine qg (v := vb (decide (x.pat.b.term = q))) (PO_eqv (PO_aggEq rfl eqm25 eg25 rfl rfl rfl rfl rfl rfl) (eTerm_eq _ _)) ?_
          refine gk ?_
          refine AL_say (k := 75) (vb ((decide (x.pat.b.var ≠ ⟨#[]⟩)) || (decide (x.pat.b.term = q)))) rfl (by rw [hg68]; rfl) ?_
          refine AL_say (k := 68) (vb (decide (x.pat.b.var ≠ ⟨#[]⟩))) rfl (by rw [hg68]) ?_
          exact nl ⟨rfl,rfl,rfl,rfl,rfl,rfl,rfl,rfl,rfl,rfl,rfl,rfl,rfl,rfl,rfl,rfl,rfl,rfl,rfl,rfl,rfl,trivial⟩
        ·refine qk ?_
         refine AL_say (k := 76) (vb (((decide ((x.kind : Int) = 1)) && (!strict)) && ((decide (x.pat.b.var ≠ ⟨#[]⟩)) || (decide (x.pat.b.term = q))))) rfl (by rw [hg62]; rfl) ?_
         refine AL_say (k := 62) (vb ((decide ((x.kind : Int) = 1)) && (!strict))) rfl (by rw [hg62]) ?_
         exact nl ⟨rfl,rfl,rfl,rfl,rfl,rfl,rfl,rfl,rfl,rfl,rfl,rfl,rfl,rfl,rfl,trivial⟩
       ·refine qz ?_
        refine qz ?_
        refine qz ?_
        refine qz ?_
        refine qz ?_
        refine qz ?_
        refine qy ?_
        refine qy ?_
        refine qy ?_
        refine qy ?_
        refine qy ?_
        refine qy ?_
        refine qz ?_
        refine qk ?_
        refine AL_say (k := 76) (vb (((decide ((x.kind : Int) = 1)) && (!strict)) && ((decide (x.pat.b.var ≠ ⟨#[]⟩)) || (decide (x.pat.b.term = q))))) rfl (by rw [hg62]; rfl) ?_
        refine AL_say (k := 62) (vb ((decide ((x.kind : Int) = 1)) && (!strict))) rfl (by rw [hg62]) ?_
        exact nl ⟨rfl,rfl,rfl,rfl,rfl,rfl,rfl,rfl,rfl,rfl,rfl,rfl,rfl,rfl,rfl,trivial⟩
      ·refine AL_keep [(76,_),(10,_),(9,_),(0,_),(3,_),(5,_),(6,_),(8,_),(11,_)] ⟨rfl,rfl,rfl,rfl,rfl,rfl,rfl,rfl,rfl,trivial⟩ ?_
       refine AL_nil ?_
       refine AW_cond _ rfl (fun hc9 => ?_) (fun hc9 => ?_)
       ·rw [if_pos hc9] at hSk
        rw [if_pos hSk] at hSi
        refine AW_seq (AW_region rfl ?_)
        refine qa (v := vb true) ?_
        refine AL_nil ?_
        refine AW_ret ?_
        exact ret_le2 (.inl rfl) rfl (by rw [hSi]) (.refl _)
       ·rw [if_neg (by rw [hc9]; simp)] at hSk
        refine AW_skip (AW_seq (AW_region rfl ?_))
        refine qp (v := .ip (List.drop 0 (eLit x))) (PO_fieldAddr rfl f68_0 rfl) ?_
        refine qp (v := vi x.kind) (PO_load rfl ty66 rfl rfl) ?_
        refine qp (v := vb (decide ((x.kind : Int) = 2))) pI ?_
        refine qm ?_
        refine AL_jk 6 86 (vb ((decide ((x.kind : Int) = 2)) && (decide (x.pat.b.var = ⟨#[]⟩)))) [(10,_),(9,_),(0,_),(3,_),(5,_),(6,_),(8,_),(11,_),(77,_),(78,_),(79,_),(80,_)] ⟨rfl,rfl,rfl,rfl,rfl,rfl,rfl,rfl,rfl,rfl,rfl,rfl,trivial⟩ ?_ ?_
        ·refine AL_split 80 _ rfl (fun hg80 => ?_) (fun hg80 => ?_)
         ·refine qg (v := .ip (List.drop 1 (eLit x))) (PO_fieldAddr rfl f68_1 rfl) ?_
          refine qg (v := .ip (List.drop (1 * 4) (List.drop 1 (eLit x)))) (PO_indexAddr_arr (i := 1) rfl un43 ty41 rfl rfl (by decide) (by decide)) ?_
          refine qg (v := .ip (List.drop 0 (List.drop (1 * 4) (List.drop 1 (eLit x))))) (PO_fieldAddr rfl f41_0 rfl) ?_
          refine qg (v := vs x.pat.b.var) (PO_load rfl ty9 rfl rfl) ?_
          refine qg (v := vb (decide (x.pat.b.var = ⟨#[]⟩))) (PO_str rfl rfl rfl rfl) ?_
          refine qk ?_
          refine AL_say (k := 86) (vb ((decide ((x.kind : Int) = 2)) && (decide (x.pat.b.var = ⟨#[]⟩)))) rfl (by rw [hg80]; rfl) ?_
          refine AL_say (k := 80) (vb (decide ((x.kind : Int) = 2))) rfl (by rw [hg80]) ?_
          exact nl ⟨rfl,rfl,rfl,rfl,rfl,rfl,rfl,rfl,rfl,rfl,rfl,rfl,rfl,trivial⟩
         ·refine qz ?_
          refine qz ?_
          refine qz ?_
          refine qz ?_
          refine qz ?_
          refine qk ?_
          refine AL_say (k := 86) (vb ((decide ((x.kind : Int) = 2)) && (decide (x.pat.b.var = ⟨#[]⟩)))) rfl (by rw [hg80]; rfl) ?_
          refine AL_say (k := 80) (vb (decide ((x.kind : Int) = 2))) rfl (by rw [hg80]) ?_
          exact nl ⟨rfl,rfl,rfl,rfl,rfl,rfl,rfl,rfl,rfl,rfl,rfl,rfl,rfl,trivial⟩
        ·refine qm ?_
         refine AL_jk 7 94 (vb (((decide ((x.kind : Int) = 2)) && (decide (x.pat.b.var = ⟨#[]⟩))) && (decide (x.pat.b.term = q)))) [(86,_),(10,_),(9,_),(0,_),(3,_),(5,_),(6,_),(8,_),(11,_),(77,_),(78,_),(79,_),(80,_),(87,_)] ⟨rfl,rfl,rfl,rfl,rfl,rfl,rfl,rfl,rfl,rfl,rfl,rfl,rfl,rfl,trivial⟩ ?_ ?_
         ·refine AL_split 87 _ rfl (fun hg87 => ?_) (fun hg87 => ?_)
          ·refine qg (v := .ip (List.drop 1 (eLit x))) (PO_fieldAddr rfl f68_1 rfl) ?_
           refine qg (v := .ip (List.drop (1 * 4) (List.drop 1 (eLit x)))) (PO_indexAddr_arr (i := 1) rfl un43 ty41 rfl rfl (by decide) (by decide)) ?_
           refine qg (v := .ip (List.drop 1 (List.drop (1 * 4) (List.drop 1 (eLit x))))) (PO_fieldAddr rfl f41_1 rfl) ?_
           refine qg (v := .agg (eTerm x.pat.b.term)) (PO_load rfl ty25 rfl rfl) ?_
           refine qg (v := .agg (eTerm q)) (PO_load rfl ty25 rfl rfl) ?_
           refine qg (v := vb (decide (x.pat.b.term = q))) (PO_eqv (PO_aggEq rfl eqm25 eg25 rfl rfl rfl rfl rfl rfl) (eTerm_eq _ _)) ?_
           refine qk ?_
           refine AL_say (k := 94) (vb (((decide ((x.kind : Int) = 2)) && (decide (x.pat.b.var = ⟨#[]⟩))) && (decide (x.pat.b.term = q)))) rfl (by rw [hg87]; rfl) ?_
           refine AL_say (k := 87) (vb ((decide ((x.kind : Int) = 2)) && (decide (x.pat.b.var = ⟨#[]⟩)))) rfl (by rw [hg87]) ?_
           exact nl ⟨rfl,rfl,rfl,rfl,rfl,rfl,rfl,rfl,rfl,rfl,rfl,rfl,rfl,rfl,rfl,trivial⟩
          ·refine qz ?_
           refine qz ?_
           refine qz ?_
           refine qz ?_
           refine qz ?_
           refine qz ?_
           refine qk ?_
           refine AL_say (k := 94) (vb (((decide ((x.kind : Int) = 2)) && (decide (x.pat.b.var = ⟨#[]⟩))) && (decide (x.pat.b.term = q)))) rfl (by rw [hg87]; rfl) ?_
           refine AL_say (k := 87) (vb ((decide ((x.kind : Int) = 2)) && (decide (x.pat.b.var = ⟨#[]⟩)))) rfl (by rw [hg87]) ?_
           exact nl ⟨rfl,rfl,rfl,rfl,rfl,rfl,rfl,rfl,rfl,rfl,rfl,rfl,rfl,rfl,rfl,trivial⟩
         ·refine AL_keep [(94,_),(10,_),(9,_),(0,_),(3,_),(5,_),(6,_),(8,_),(11,_)] ⟨rfl,rfl,rfl,rfl,rfl,rfl,rfl,rfl,rfl,trivial⟩ ?_
          refine AL_nil ?_
          refine AW_cond _ rfl (fun hc11 => ?_) (fun hc11 => ?_)
          ·rw [if_pos hc11] at hSk
           rw [if_pos hSk] at hSi
           refine AW_seq (AW_region rfl ?_)
           refine qa (v := vb true) ?_
           refine AL_nil ?_
           refine AW_ret ?_
           exact ret_le2 (.inl rfl) rfl (by rw [hSi]) (.refl _)
          ·rw [if_neg (by rw [hc11]; simp)] at hSk
           refine AW_skip (AW_region rfl ?_)
           refine qm ?_
           refine qp (v := vn (k + 1)) (PO_inc rfl rfl rfl (by first | omega | simp_all; omega)) ?_
           refine qa ?_
           refine AL_keep [(10,_),(9,_),(0,_),(3,_),(5,_),(6,_),(8,_),(11,_)] ⟨rfl,rfl,rfl,rfl,rfl,rfl,rfl,rfl,trivial⟩ ?_
           refine AL_nil ?_
           exact ⟨k + 1, ⟨by omega, hSk⟩, by omega, ⟨rfl, ⟨rfl, rfl, rfl, rfl, rfl, rfl, rfl, trivial⟩, rfl, rfl, rfl⟩⟩
    ·replace hc2 := of_decide_eq_false hc2
     rw [drop_end (l := r.body) (i := k) (by omega), hangL] at hSk
     rw [hSk, if_neg (by simp)] at hSi
     refine AW_exit ?_
     refine AW_region rfl ?_
     refine qm ?_
     refine qp (v := vn (i + 1)) (PO_inc rfl rfl rfl (by first | omega | simp_all; omega)) ?_
     refine qa ?_
     refine AL_keep [(10,_),(9,_),(0,_),(3,_),(5,_),(6,_),(8,_)] ⟨rfl,rfl,rfl,rfl,rfl,rfl,rfl,trivial⟩ ?_
     refine AL_nil ?_
     exact ⟨i + 1, ⟨by omega, hSi⟩, by omega, ⟨rfl, ⟨rfl, rfl, rfl, rfl, rfl, rfl, trivial⟩, rfl, rfl, rfl⟩⟩
 ·replace hc0 := of_decide_eq_false hc0
  rw [drop_end (l := l) (i := i) (by omega), hangF] at hSi
  refine AW_exit ?_
  refine AW_seq (AW_region rfl ?_)
  refine qa (v := vb false) ?_
  refine AL_nil ?_
  refine AW_ret ?_
  exact ret_le2 (.inl rfl) rfl (by rw [hSi]) (.refl _)
end Go.AM.Tryd
end
section
set_option maxRecDepth 100000
set_option linter.unusedVariables false
set_option linter.unusedSimpArgs false
namespace Go.AM.Tryd
open Go Go.AM Go.AM.D
def predF : List Rule → List Term → List Term
 | [], acc => acc
 | r :: l, acc => if (decide (r.head.b.var = ⟨#[]⟩) && decide (atF r.head.b.term acc 0 < 0)) = true then predF l (acc ++ [r.head.b.term]) else predF l acc
theorem pred_ (l : List Rule) (hl : l.length ≤ 1048576) : PFn PR (.fn (.func 11) [] []) [.sl .any 13 (l.map eRule)] (.sl .any 3 ((predF l []).map eTerm)) := by
 refine PFn_of Go.Proofs.Tryd.func11 rfl (by rfl) Go.Proofs.Tryd.ntmps11 rfl (by simp) fun h => ?_
 refine AW_seq (AW_region rfl ?_)
 refine qp (v := .sl .nil 3 []) (PO_nil_assign rfl) ?_
 refine AL_nil (AW_seq (AW_region rfl ?_))
 refine qp (v := .sl .nil 3 []) (PO_nil_assign rfl) ?_
 refine AL_nil (AW_seq (AW_seq (AW_region rfl ?_)))
 refine qa (v := vi 0) ?_
 refine AL_nil (AW_block ?_)
 refine AW_iter (fun (z_ : Nat × List Term × Own × Heap) => match z_ with | (i, acc, own, hp) => [(4, .lit (.int .i64 ((i : Nat) : Int))), (3, .sl own 3 (acc.map eTerm)), (0, .sl .any 13 (l.map eRule)), (2, .sl .nil 3 [])]) (fun (z_ : Nat × List Term × Own × Heap) => match z_ with | (i, acc, own, hp) => hp) (fun (z_ : Nat × List Term × Own × Heap) => match z_ with | (i, acc, own, hp) => i ≤ l.length ∧ predF l [] = predF (l.drop i) acc ∧ acc.length ≤ i ∧ Grow h 3 acc.length own hp) (fun (z_ : Nat × List Term × Own × Heap) => match z_ with | (i, acc, own, hp) => l.length - i) ((0, [], .nil, h)) ⟨rfl, rfl, rfl, rfl, trivial⟩ rfl (⟨by omega, rfl, by simp, Grow.nil _ _ _⟩) ?_
 rintro ⟨i, acc, own, hp⟩ ⟨hIi, hSi, hA, hG⟩
 refine AW_seq (AW_seq (AW_region rfl ?_))
 refine qm ?_
 refine qm ?_
 refine qp (v := vi (l.length : Int)) (PO_lenM rfl un22 rfl) ?_
 refine qp (v := vb (decide ((((i : Nat) : Int) : Int) < (l.length : Int)))) pI ?_
 refine AL_keep [(4,_),(3,_),(0,_),(2,_),(9,_)] ⟨rfl,rfl,rfl,rfl,rfl,trivial⟩ ?_
 refine AL_nil ?_
 refine AW_cond _ rfl (fun hc0 => ?_) (fun hc0 => ?_)
 ·replace hc0 := of_decide_eq_true hc0
  obtain ⟨r, hrr, hdr, hmr⟩ := drop_at (l := l) (i := i) (by omega)
  rw [hdr, predF] at hSi
  refine AW_skip (AW_seq (AW_block (AW_seq (AW_region rfl ?_))))
  refine qm ?_
  refine qm ?_
  refine qp (v := .ip (eRule r)) (PO_indexAddr rfl un22 ty46 rfl rfl (by first | decide | omega) (mget hrr)) ?_
  refine qp (v := .ip (List.drop 0 (eRule r))) (PO_fieldAddr rfl f46_0 rfl) ?_
  refine qp (v := .ip (List.drop (1 * 4) (List.drop 0 (eRule r)))) (PO_indexAddr_arr (i := 1) rfl un43 ty41 rfl rfl (by decide) (by decide)) ?_
  refine qp (v := .agg (eSlot r.head.b)) (PO_load rfl ty41 rfl rfl) ?_
  refine AL_als rfl rfl rfl rfl rfl rfl al41 rfl rfl rfl rfl rfl ?_
  refine AL_keep [(4,_),(3,_),(0,_),(2,_),(5,_)] ⟨rfl,rfl,rfl,rfl,rfl,trivial⟩ ?_
  refine AL_nil (AW_seq (AW_region rfl ?_))
  refine qp (v := .ip (List.drop 0 (eSlot r.head.b))) (PO_fieldAddr rfl f41_0 rfl) ?_
  refine qp (v := vs r.head.b.var) (PO_load rfl ty9 rfl rfl) ?_
  refine qp (v := vb (decide (r.head.b.var = ⟨#[]⟩))) (PO_str rfl rfl rfl rfl) ?_
  refine qm ?_
  refine AL_jk 6 27 (vb ((decide (r.head.b.var = ⟨#[]⟩)) && (decide (((atF r.head.b.term acc 0) : Int) < 0)))) [(4,_),(3,_),(0,_),(2,_),(5,_),(18,_),(19,_),(20,_),(21,_)] ⟨rfl,rfl,rfl,rfl,rfl,rfl,rfl,rfl,rfl,trivial⟩ ?_ ?_
  ·refine AL_split 21 _ rfl (fun hg21 => ?_) (fun hg21 => ?_)
   ·refine gm ?_
    refine qg (v := .ip (List.drop 1 (eSlot r.head.b))) (PO_fieldAddr rfl f41_1 rfl) ?_
    refine qg (v := .agg (eTerm r.head.b.term)) (PO_load rfl ty25 rfl rfl) ?_
    refine qg (v := vi (atF r.head.b.term acc 0)) (PO_call rfl rfl rfl (at_ _ _ _ (by first | assumption | omega))) ?_
    refine qg (v := vb (decide (((atF r.head.b.term acc 0) : Int) < 0))) pI ?_
    refine qk ?_
    refine AL_say (k := 27) (vb ((decide (r.head.b.var = ⟨#[]⟩)) && (decide (((atF r.head.b.term acc 0) : Int) < 0)))) rfl (by rw [hg21]; rfl) ?_
    refine AL_say (k := 21) (vb (decide (r.head.b.var = ⟨#[]⟩))) rfl (by rw [hg21]) ?_
    exact nl ⟨rfl,rfl,rfl,rfl,rfl,rfl,rfl,rfl,rfl,rfl,trivial⟩
   ·refine qz ?_
    refine qz ?_
    refine qz ?_
    refine qz ?_
    refine qz ?_
    refine qk ?_
    refine AL_say (k := 27) (vb ((decide (r.head.b.var = ⟨#[]⟩)) && (decide (((atF r.head.b.term acc 0) : Int) < 0)))) rfl (by rw [hg21]; rfl) ?_
    refine AL_say (k := 21) (vb (decide (r.head.b.var = ⟨#[]⟩))) rfl (by rw [hg21]) ?_
    exact nl ⟨rfl,rfl,rfl,rfl,rfl,rfl,rfl,rfl,rfl,rfl,trivial⟩
  ·refine AL_keep [(27,_),(4,_),(3,_),(0,_),(2,_),(5,_)] ⟨rfl,rfl,rfl,rfl,rfl,rfl,trivial⟩ ?_
   refine AL_nil ?_
   refine AW_cond _ rfl (fun hc6 => ?_) (fun hc6 => ?_)
   ·rw [if_pos hc6] at hSi
    refine AW_region rfl ?_
    refine qm ?_
    refine qp (v := .ip (List.drop 1 (eSlot r.head.b))) (PO_fieldAddr rfl f41_1 rfl) ?_
    refine qp (v := .agg (eTerm r.head.b.term)) (PO_load rfl ty25 rfl rfl) ?_
    refine qp (v := .sl .full 3 ([r.head.b.term].map eTerm)) (PO_buildSlice (n := 1) (S := 3) (rs := eTerm r.head.b.term ++ []) rfl un37 ty25 z25 rfl rfl rfl (by decide) rfl (by decide)) ?_
    refine AL_m rfl rfl rfl (MO_grow (acc := acc) (f := eTerm) rfl un37 un37 ty25 z25 rfl by25 rfl rfl (.inl rfl) (by first | omega | simp) hG (by simp; omega) (by simp; omega)) ?_
    rintro _ h1 ⟨own1, rfl, hG1⟩
    refine qa ?_
    refine AL_keep [(4,_),(3,_),(0,_),(2,_),(5,_)] ⟨rfl,rfl,rfl,rfl,rfl,trivial⟩ ?_
    refine AL_nil (AW_region rfl ?_)
    refine qm ?_
    refine qp (v := vn (i + 1)) (PO_inc rfl rfl rfl (by first | omega | simp_all; omega)) ?_
    refine qa ?_
    refine AL_keep [(4,_),(3,_),(0,_),(2,_),(5,_)] ⟨rfl,rfl,rfl,rfl,rfl,trivial⟩ ?_
    refine AL_nil ?_
    exact ⟨(i + 1, acc ++ [r.head.b.term], own1, h1), ⟨by omega, hSi, by simp; omega, hG1⟩, by simp; omega, ⟨rfl, ⟨rfl, rfl, rfl, rfl, trivial⟩, rfl, rfl, rfl⟩⟩
   ·rw [if_neg (by rw [hc6]; simp)] at hSi
    refine AW_skip (AW_region rfl ?_)
    refine qm ?_
    refine qp (v := vn (i + 1)) (PO_inc rfl rfl rfl (by first | omega | simp_all; omega)) ?_
    refine qa ?_
    refine AL_keep [(4,_),(3,_),(0,_),(2,_),(5,_)] ⟨rfl,rfl,rfl,rfl,rfl,trivial⟩ ?_
    refine AL_nil ?_
    exact ⟨(i + 1, acc, own, hp), ⟨by omega, hSi, by omega, hG⟩, by simp; omega, ⟨rfl, ⟨rfl, rfl, rfl, rfl, trivial⟩, rfl, rfl, rfl⟩⟩
 ·replace hc0 := of_decide_eq_false hc0
  rw [drop_end (l := l) (i := i) (by omega), predF] at hSi
  refine AW_exit ?_
  refine AW_seq (AW_region rfl ?_)
  refine qm ?_
  refine qa ?_
  refine AL_keep [(4,_),(3,_),(0,_),(2,_)] ⟨rfl,rfl,rfl,rfl,trivial⟩ ?_
  refine AL_nil ?_
  refine AW_any (k := 2) rfl ?_
  refine AW_ret ?_
  exact ret_le2 (.inl rfl) rfl (by rw [hSi]) hG.le
def inbF (c : Int) : List UInt8 → Bool
 | [] => false
 | x :: l => if ((x : UInt8).toNat : Int) = c then true else inbF c l
theorem inb_ (c : Int) (s : ByteArray) (hs : s.size ≤ 1048576) : PFn PR (.fn (.func 91) [] []) [.lit (.int .u8 c), .lit (.string s)] (.lit (.bool (inbF c (bys s)))) := by
 have hsz := bsize s
 refine PFn_of Go.Proofs.Tryd.func91 rfl (by rfl) Go.Proofs.Tryd.ntmps91 rfl (by simp) fun h => ?_
 refine AW_seq (AW_region rfl ?_)
 refine qa (v := vb false) ?_
 refine AL_nil (AW_seq (AW_seq (AW_region rfl ?_)))
 refine qa (v := vi 0) ?_
 refine AL_nil (AW_block ?_)
 refine AW_iter (fun (i : Nat) => [(5, .lit (.int .i64 ((i : Nat) : Int))), (0, .lit (.int .u8 c)), (1, .lit (.string s)), (4, .lit (.bool false))]) (fun (i : Nat) => h) (fun (i : Nat) => i ≤ (bys s).length ∧ inbF c (bys s) = inbF c ((bys s).drop i)) (fun (i : Nat) => (bys s).length - i) (0) ⟨rfl, rfl, rfl, rfl, trivial⟩ rfl (⟨by omega, rfl⟩) ?_
 rintro i ⟨hIi, hSi⟩
 refine AW_seq (AW_seq (AW_region rfl ?_))
 refine qm ?_
 refine qm ?_
 refine qp (v := vi (s.size : Int)) (PO_len_str rfl un9 rfl) ?_
 refine qp (v := vb (decide ((((i : Nat) : Int) : Int) < (s.size : Int)))) pI ?_
 refine AL_keep [(5,_),(0,_),(1,_),(4,_),(9,_)] ⟨rfl,rfl,rfl,rfl,rfl,trivial⟩ ?_
 refine AL_nil ?_
 refine AW_cond _ rfl (fun hc0 => ?_) (fun hc0 => ?_)
 ·replace hc0 := of_decide_eq_true hc0
  obtain ⟨x, hrx, hdx, hmx⟩ := drop_at (l := (bys s)) (i := i) (by omega)
  rw [hdx, inbF] at hSi
  refine AW_skip (AW_seq (AW_block (AW_seq (AW_region rfl ?_))))
  refine qm ?_
  refine qm ?_
  refine qp (v := .lit (.int .u8 ((x : UInt8).toNat : Int))) (PO_index_str rfl un9 rfl rfl (by first | decide | omega) (bget hrx)) ?_
  refine qm ?_
  refine qp (v := vb (decide ((((x : UInt8).toNat : Int) : Int) = c))) pI ?_
  refine AL_keep [(5,_),(0,_),(1,_),(4,_),(16,_)] ⟨rfl,rfl,rfl,rfl,rfl,trivial⟩ ?_
  refine AL_nil ?_
  refine AW_cond _ rfl (fun hc4 => ?_) (fun hc4 => ?_)
  ·replace hc4 := of_decide_eq_true hc4
   rw [if_pos hc4] at hSi
   refine AW_seq (AW_region rfl ?_)
   refine qa (v := vb true) ?_
   refine AL_nil ?_
   refine AW_ret ?_
   exact ret_le2 (.inl rfl) rfl (by rw [hSi]) (.refl _)
  ·replace hc4 := of_decide_eq_false hc4
   rw [if_neg hc4] at hSi
   refine AW_skip (AW_region rfl ?_)
   refine qm ?_
   refine qp (v := vn (i + 1)) (PO_inc rfl rfl rfl (by first | omega | simp_all; omega)) ?_
   refine qa ?_
   refine AL_keep [(5,_),(0,_),(1,_),(4,_)] ⟨rfl,rfl,rfl,rfl,trivial⟩ ?_
   refine AL_nil ?_
   exact ⟨i + 1, ⟨by omega, hSi⟩, by omega, ⟨rfl, ⟨rfl, rfl, rfl, rfl, trivial⟩, rfl, rfl, rfl⟩⟩
 ·replace hc0 := of_decide_eq_false hc0
  rw [drop_end (l := (bys s)) (i := i) (by omega), inbF] at hSi
  refine AW_exit ?_
  refine AW_seq (AW_region rfl ?_)
  refine qa (v := vb false) ?_
  refine AL_nil ?_
  refine AW_ret ?_
  exact ret_le2 (.inl rfl) rfl (by rw [hSi]) (.refl _)
def nameB (i : Int) (c : Int) : Bool := ((decide (c < 65) || decide (c > 90)) && (decide (c < 97) || decide (c > 122))) && ((decide (i = 0) || decide (c < 48)) || decide (c > 57))
def nameL : Int → List UInt8 → Bool
 | _, [] => true
 | i, x :: l => if nameB i ((x : UInt8).toNat : Int) = true then false else nameL (i + 1) l
def nameF (s : ByteArray) : Bool := nameL 0 (bys s) && (decide ((s.size : Int) ≥ 1) && decide ((s.size : Int) ≤ 32))
theorem name_ (s : ByteArray) (hs : s.size ≤ 1048576) : PFn PR (.fn (.func 88) [] []) [.lit (.string s)] (.lit (.bool (nameF s))) := by
 have hsz := bsize s
 refine PFn_of Go.Proofs.Tryd.func88 rfl (by rfl) Go.Proofs.Tryd.ntmps88 rfl (by simp) fun h => ?_
 refine AW_seq (AW_region rfl ?_)
 refine qa (v := vb false) ?_
 refine AL_nil (AW_seq (AW_seq (AW_region rfl ?_)))
 refine qm ?_
 refine qp (v := vi (s.size : Int)) (PO_len_str rfl un9 rfl) ?_
 refine qm (v := vi 0) ?_
 refine AL_keep [(0,_),(2,_),(6,_),(7,_)] ⟨rfl,rfl,rfl,rfl,trivial⟩ ?_
 refine AL_nil (AW_block ?_)
 refine AW_iter (fun (i : Nat) => [(7, .lit (.int .i64 ((i : Nat) : Int))), (0, .lit (.string s)), (2, .lit (.bool false)), (6, .lit (.int .i64 (s.size : Int)))]) (fun (i : Nat) => h) (fun (i : Nat) => i ≤ (bys s).length ∧ nameL 0 (bys s) = nameL ((i : Nat) : Int) ((bys s).drop i)) (fun (i : Nat) => (bys s).length - i) (0) ⟨rfl, rfl, rfl, rfl, trivial⟩ rfl (⟨by omega, rfl⟩) ?_
 rintro i ⟨hIi, hSi⟩
 refine AW_seq (AW_region rfl ?_)
 refine qp (v := vb (decide ((((i : Nat) : Int) : Int) < (s.size : Int)))) pI ?_
 refine AL_nil (AW_seq ?_)
 refine AW_cond _ rfl (fun hc0 => ?_) (fun hc0 => ?_)
 ·replace hc0 := of_decide_eq_true hc0
  obtain ⟨x, hrx, hdx, hmx⟩ := drop_at (l := (bys s)) (i := i) (by omega)
  rw [hdx, nameL] at hSi
  refine AW_skip (AW_seq (AW_block (AW_seq (AW_region rfl ?_))))
  refine qm ?_
  refine qa ?_
  refine AL_keep [(7,_),(0,_),(2,_),(6,_),(3,_)] ⟨rfl,rfl,rfl,rfl,rfl,trivial⟩ ?_
  refine AL_nil (AW_seq (AW_region rfl ?_))
  refine qm ?_
  refine qm ?_
  refine qp (v := .lit (.int .u8 ((x : UInt8).toNat : Int))) (PO_index_str rfl un9 rfl rfl (by first | decide | omega) (bget hrx)) ?_
  refine qa ?_
  refine AL_keep [(7,_),(0,_),(2,_),(6,_),(3,_),(4,_)] ⟨rfl,rfl,rfl,rfl,rfl,rfl,trivial⟩ ?_
  refine AL_nil (AW_seq (AW_region rfl ?_))
  refine qm ?_
  refine qp (v := vb (decide ((((x : UInt8).toNat : Int) : Int) < 65))) pI ?_
  refine qm ?_
  refine AL_jk 3 18 (vb ((decide ((((x : UInt8).toNat : Int) : Int) < 65)) || (decide ((((x : UInt8).toNat : Int) : Int) > 90)))) [(7,_),(0,_),(2,_),(6,_),(3,_),(4,_),(13,_),(14,_),(15,_)] ⟨rfl,rfl,rfl,rfl,rfl,rfl,rfl,rfl,rfl,trivial⟩ ?_ ?_
  ·refine AL_split 15 _ rfl (fun hg15 => ?_) (fun hg15 => ?_)
   ·refine qz ?_
    refine qz ?_
    refine qk ?_
    refine AL_say (k := 18) (vb ((decide ((((x : UInt8).toNat : Int) : Int) < 65)) || (decide ((((x : UInt8).toNat : Int) : Int) > 90)))) rfl (by rw [hg15]; rfl) ?_
    refine AL_say (k := 15) (vb (decide ((((x : UInt8).toNat : Int) : Int) < 65))) rfl (by rw [hg15]) ?_
    exact nl ⟨rfl,rfl,rfl,rfl,rfl,rfl,rfl,rfl,rfl,rfl,trivial⟩
   ·refine gm ?_
    refine qg (v := vb (decide ((((x : UInt8).toNat : Int) : Int) > 90))) pI ?_
    refine qk ?_
    refine AL_say (k := 18) (vb ((decide ((((x : UInt8).toNat : Int) : Int) < 65)) || (decide ((((x : UInt8).toNat : Int) : Int) > 90)))) rfl (by rw [hg15]; rfl) ?_
    refine AL_say (k := 15) (vb (decide ((((x : UInt8).toNat : Int) : Int) < 65))) rfl (by rw [hg15]) ?_
    exact nl ⟨rfl,rfl,rfl,rfl,rfl,rfl,rfl,rfl,rfl,rfl,trivial⟩
  ·refine qm ?_
   refine AL_jk 7 26 (vb (((decide ((((x : UInt8).toNat : Int) : Int) < 65)) || (decide ((((x : UInt8).toNat : Int) : Int) > 90))) && ((decide ((((x : UInt8).toNat : Int) : Int) < 97)) || (decide ((((x : UInt8).toNat : Int) : Int) > 122))))) [(18,_),(7,_),(0,_),(2,_),(6,_),(3,_),(4,_),(13,_),(14,_),(15,_),(19,_)] ⟨rfl,rfl,rfl,rfl,rfl,rfl,rfl,rfl,rfl,rfl,rfl,trivial⟩ ?_ ?_
   ·refine AL_split 19 _ rfl (fun hg19 => ?_) (fun hg19 => ?_)
    ·refine gm ?_
     refine qg (v := vb (decide ((((x : UInt8).toNat : Int) : Int) < 97))) pI ?_
     refine gm ?_
     refine AL_jk 3 25 (vb ((decide ((((x : UInt8).toNat : Int) : Int) < 97)) || (decide ((((x : UInt8).toNat : Int) : Int) > 122)))) [(18,_),(7,_),(0,_),(2,_),(6,_),(3,_),(4,_),(13,_),(14,_),(15,_),(19,_),(20,_),(21,_),(22,_)] ⟨rfl,rfl,rfl,rfl,rfl,rfl,rfl,rfl,rfl,rfl,rfl,rfl,rfl,rfl,trivial⟩ ?_ ?_
     ·refine AL_split 22 _ rfl (fun hg22 => ?_) (fun hg22 => ?_)
      ·refine qz ?_
       refine qz ?_
       refine gk ?_
       refine AL_say (k := 25) (vb ((decide ((((x : UInt8).toNat : Int) : Int) < 97)) || (decide ((((x : UInt8).toNat : Int) : Int) > 122)))) rfl (by rw [hg22]; rfl) ?_
       refine AL_say (k := 22) (vb (decide ((((x : UInt8).toNat : Int) : Int) < 97))) rfl (by rw [hg22]) ?_
       exact nl ⟨rfl,rfl,rfl,rfl,rfl,rfl,rfl,rfl,rfl,rfl,rfl,rfl,rfl,rfl,rfl,trivial⟩
      ·refine gm ?_
       refine qg (v := vb (decide ((((x : UInt8).toNat : Int) : Int) > 122))) pI ?_
       refine gk ?_
       refine AL_say (k := 25) (vb ((decide ((((x : UInt8).toNat : Int) : Int) < 97)) || (decide ((((x : UInt8).toNat : Int) : Int) > 122)))) rfl (by rw [hg22]; rfl) ?_
       refine AL_say (k := 22) (vb (decide ((((x : UInt8).toNat : Int) : Int) < 97))) rfl (by rw [hg22]) ?_
       exact nl ⟨rfl,rfl,rfl,rfl,rfl,rfl,rfl,rfl,rfl,rfl,rfl,rfl,rfl,rfl,rfl,trivial⟩
     ·refine qk ?_
      refine AL_say (k := 26) (vb (((decide ((((x : UInt8).toNat : Int) : Int) < 65)) || (decide ((((x : UInt8).toNat : Int) : Int) > 90))) && ((decide ((((x : UInt8).toNat : Int) : Int) < 97)) || (decide ((((x : UInt8).toNat : Int) : Int) > 122))))) rfl (by rw [hg19]; rfl) ?_
      refine AL_say (k := 19) (vb ((decide ((((x : UInt8).toNat : Int) : Int) < 65)) || (decide ((((x : UInt8).toNat : Int) : Int) > 90)))) rfl (by rw [hg19]) ?_
      exact nl ⟨rfl,rfl,rfl,rfl,rfl,rfl,rfl,rfl,rfl,rfl,rfl,rfl,trivial⟩
    ·refine qz ?_
     refine qz ?_
     refine qz ?_
     refine qy ?_
     refine qy ?_
     refine qz ?_
     refine qk ?_
     refine AL_say (k := 26) (vb (((decide ((((x : UInt8).toNat : Int) : Int) < 65)) || (decide ((((x : UInt8).toNat : Int) : Int) > 90))) && ((decide ((((x : UInt8).toNat : Int) : Int) < 97)) || (decide ((((x : UInt8).toNat : Int) : Int) > 122))))) rfl (by rw [hg19]; rfl) ?_
     refine AL_say (k := 19) (vb ((decide ((((x : UInt8).toNat : Int) : Int) < 65)) || (decide ((((x : UInt8).toNat : Int) : Int) > 90)))) rfl (by rw [hg19]) ?_
     exact nl ⟨rfl,rfl,rfl,rfl,rfl,rfl,rfl,rfl,rfl,rfl,rfl,rfl,trivial⟩
   ·refine qm ?_
    refine AL_jk 11 38 (vb ((((decide ((((x : UInt8).toNat : Int) : Int) < 65)) || (decide ((((x : UInt8).toNat : Int) : Int) > 90))) && ((decide ((((x : UInt8).toNat : Int) : Int) < 97)) || (decide ((((x : UInt8).toNat : Int) : Int) > 122)))) && (((decide ((((i : Nat) : Int) : Int) = 0)) || (decide ((((x : UInt8).toNat : Int) : Int) < 48))) || (decide ((((x : UInt8).toNat : Int) : Int) > 57))))) [(26,_),(18,_),(7,_),(0,_),(2,_),(6,_),(3,_),(4,_),(13,_),(14,_),(15,_),(19,_),(27,_)] ⟨rfl,rfl,rfl,rfl,rfl,rfl,rfl,rfl,rfl,rfl,rfl,rfl,rfl,trivial⟩ ?_ ?_
    ·refine AL_split 27 _ rfl (fun hg27 => ?_) (fun hg27 => ?_)
     ·refine gm ?_
      refine qg (v := vb (decide ((((i : Nat) : Int) : Int) = 0))) pI ?_
      refine gm ?_
      refine AL_jk 3 33 (vb ((decide ((((i : Nat) : Int) : Int) = 0)) || (decide ((((x : UInt8).toNat : Int) : Int) < 48)))) [(26,_),(18,_),(7,_),(0,_),(2,_),(6,_),(3,_),(4,_),(13,_),(14,_),(15,_),(19,_),(27,_),(28,_),(29,_),(30,_)] ⟨rfl,rfl,rfl,rfl,rfl,rfl,rfl,rfl,rfl,rfl,rfl,rfl,rfl,rfl,rfl,rfl,trivial⟩ ?_ ?_
      ·refine AL_split 30 _ rfl (fun hg30 => ?_) (fun hg30 => ?_)
       ·refine qz ?_
        refine qz ?_
        refine gk ?_
        refine AL_say (k := 33) (vb ((decide ((((i : Nat) : Int) : Int) = 0)) || (decide ((((x : UInt8).toNat : Int) : Int) < 48)))) rfl (by rw [hg30]; rfl) ?_
        refine AL_say (k := 30) (vb (decide ((((i : Nat) : Int) : Int) = 0))) rfl (by rw [hg30]) ?_
        exact nl ⟨rfl,rfl,rfl,rfl,rfl,rfl,rfl,rfl,rfl,rfl,rfl,rfl,rfl,rfl,rfl,rfl,rfl,trivial⟩
       ·refine gm ?_
        refine qg (v := vb (decide ((((x : UInt8).toNat : Int) : Int) < 48))) pI ?_
        refine gk ?_
        refine AL_say (k := 33) (vb ((decide ((((i : Nat) : Int) : Int) = 0)) || (decide ((((x : UInt8).toNat : Int) : Int) < 48)))) rfl (by rw [hg30]; rfl) ?_
        refine AL_say (k := 30) (vb (decide ((((i : Nat) : Int) : Int) = 0))) rfl (by rw [hg30]) ?_
        exact nl ⟨rfl,rfl,rfl,rfl,rfl,rfl,rfl,rfl,rfl,rfl,rfl,rfl,rfl,rfl,rfl,rfl,rfl,trivial⟩
      ·refine gm ?_
       refine AL_jk 3 37 (vb (((decide ((((i : Nat) : Int) : Int) = 0)) || (decide ((((x : UInt8).toNat : Int) : Int) < 48))) || (decide ((((x : UInt8).toNat : Int) : Int) > 57)))) [(33,_),(26,_),(18,_),(7,_),(0,_),(2,_),(6,_),(3,_),(4,_),(13,_),(14,_),(15,_),(19,_),(27,_),(28,_),(29,_),(30,_),(34,_)] ⟨rfl,rfl,rfl,rfl,rfl,rfl,rfl,rfl,rfl,rfl,rfl,rfl,rfl,rfl,rfl,rfl,rfl,rfl,trivial⟩ ?_ ?_
       ·refine AL_split 34 _ rfl (fun hg34 => ?_) (fun hg34 => ?_)
        ·refine qz ?_
         refine qz ?_
         refine gk ?_
         refine AL_say (k := 37) (vb (((decide ((((i : Nat) : Int) : Int) = 0)) || (decide ((((x : UInt8).toNat : Int) : Int) < 48))) || (decide ((((x : UInt8).toNat : Int) : Int) > 57)))) rfl (by rw [hg34]; rfl) ?_
         refine AL_say (k := 34) (vb ((decide ((((i : Nat) : Int) : Int) = 0)) || (decide ((((x : UInt8).toNat : Int) : Int) < 48)))) rfl (by rw [hg34]) ?_
         exact nl ⟨rfl,rfl,rfl,rfl,rfl,rfl,rfl,rfl,rfl,rfl,rfl,rfl,rfl,rfl,rfl,rfl,rfl,rfl,rfl,trivial⟩
        ·refine gm ?_
         refine qg (v := vb (decide ((((x : UInt8).toNat : Int) : Int) > 57))) pI ?_
         refine gk ?_
         refine AL_say (k := 37) (vb (((decide ((((i : Nat) : Int) : Int) = 0)) || (decide ((((x : UInt8).toNat : Int) : Int) < 48))) || (decide ((((x : UInt8).toNat : Int) : Int) > 57)))) rfl (by rw [hg34]; rfl) ?_
         refine AL_say (k := 34) (vb ((decide ((((i : Nat) : Int) : Int) = 0)) || (decide ((((x : UInt8).toNat : Int) : Int) < 48)))) rfl (by rw [hg34]) ?_
         exact nl ⟨rfl,rfl,rfl,rfl,rfl,rfl,rfl,rfl,rfl,rfl,rfl,rfl,rfl,rfl,rfl,rfl,rfl,rfl,rfl,trivial⟩
       ·refine qk ?_
        refine AL_say (k := 38) (vb ((((decide ((((x : UInt8).toNat : Int) : Int) < 65)) || (decide ((((x : UInt8).toNat : Int) : Int) > 90))) && ((decide ((((x : UInt8).toNat : Int) : Int) < 97)) || (decide ((((x : UInt8).toNat : Int) : Int) > 122)))) && (((decide ((((i : Nat) : Int) : Int) = 0)) || (decide ((((x : UInt8).toNat : Int) : Int) < 48))) || (decide ((((x : UInt8).toNat : Int) : Int) > 57))))) rfl (by rw [hg27]; rfl) ?_
        refine AL_say (k := 27) (vb (((decide ((((x : UInt8).toNat : Int) : Int) < 65)) || (decide ((((x : UInt8).toNat : Int) : Int) > 90))) && ((decide ((((x : UInt8).toNat : Int) : Int) < 97)) || (decide ((((x : UInt8).toNat : Int) : Int) > 122))))) rfl (by rw [hg27]) ?_
        exact nl ⟨rfl,rfl,rfl,rfl,rfl,rfl,rfl,rfl,rfl,rfl,rfl,rfl,rfl,rfl,trivial⟩
     ·refine qz ?_
      refine qz ?_
      refine qz ?_
      refine qy ?_
      refine qy ?_
      refine qz ?_
      refine qz ?_
      refine qy ?_
      refine qy ?_
      refine qz ?_
      refine qk ?_
      refine AL_say (k := 38) (vb ((((decide ((((x : UInt8).toNat : Int) : Int) < 65)) || (decide ((((x : UInt8).toNat : Int) : Int) > 90))) && ((decide ((((x : UInt8).toNat : Int) : Int) < 97)) || (decide ((((x : UInt8).toNat : Int) : Int) > 122)))) && (((decide ((((i : Nat) : Int) : Int) = 0)) || (decide ((((x : UInt8).toNat : Int) : Int) < 48))) || (decide ((((x : UInt8).toNat : Int) : Int) > 57))))) rfl (by rw [hg27]; rfl) ?_
      refine AL_say (k := 27) (vb (((decide ((((x : UInt8).toNat : Int) : Int) < 65)) || (decide ((((x : UInt8).toNat : Int) : Int) > 90))) && ((decide ((((x : UInt8).toNat : Int) : Int) < 97)) || (decide ((((x : UInt8).toNat : Int) : Int) > 122))))) rfl (by rw [hg27]) ?_
      exact nl ⟨rfl,rfl,rfl,rfl,rfl,rfl,rfl,rfl,rfl,rfl,rfl,rfl,rfl,rfl,trivial⟩
    ·refine AL_keep [(38,_),(7,_),(0,_),(2,_),(6,_),(3,_),(4,_)] ⟨rfl,rfl,rfl,rfl,rfl,rfl,rfl,trivial⟩ ?_
     refine AL_nil ?_
     refine AW_cond _ rfl (fun hc5 => ?_) (fun hc5 => ?_)
     ·rw [nameB, if_pos hc5] at hSi
      refine AW_seq (AW_region rfl ?_)
      refine qa (v := vb false) ?_
      refine AL_nil ?_
      refine AW_ret ?_
      exact ret_le2 (.inl rfl) rfl (by rw [nameF, hSi]; rfl) (.refl _)
     ·rw [nameB, if_neg (by rw [hc5]; simp)] at hSi
      refine AW_skip (AW_region rfl ?_)
      refine qp (v := vn (i + 1)) (PO_inc rfl rfl rfl (by first | omega | simp_all; omega)) ?_
      refine qm ?_
      refine AL_keep [(7,_),(0,_),(2,_),(6,_),(3,_),(4,_)] ⟨rfl,rfl,rfl,rfl,rfl,rfl,trivial⟩ ?_
      refine AL_nil ?_
      exact ⟨i + 1, ⟨by omega, hSi⟩, by omega, ⟨rfl, ⟨rfl, rfl, rfl, rfl, trivial⟩, rfl, rfl, rfl⟩⟩
 ·replace hc0 := of_decide_eq_false hc0
  rw [drop_end (l := (bys s)) (i := i) (by omega), nameL] at hSi
  refine AW_exit ?_
  refine AW_seq (AW_region rfl ?_)
  refine qm ?_
  refine qp (v := vi (s.size : Int)) (PO_len_str rfl un9 rfl) ?_
  refine qp (v := vb (decide (((s.size : Int) : Int) ≥ 1))) pI ?_
  refine qm ?_
  refine AL_jk 4 47 (vb ((decide (((s.size : Int) : Int) ≥ 1)) && (decide (((s.size : Int) : Int) ≤ 32)))) [(7,_),(0,_),(2,_),(6,_),(40,_),(41,_),(42,_),(43,_)] ⟨rfl,rfl,rfl,rfl,rfl,rfl,rfl,rfl,trivial⟩ ?_ ?_
  ·refine AL_split 43 _ rfl (fun hg43 => ?_) (fun hg43 => ?_)
   ·refine gm ?_
    refine qg (v := vi (s.size : Int)) (PO_len_str rfl un9 rfl) ?_
    refine qg (v := vb (decide (((s.size : Int) : Int) ≤ 32))) pI ?_
    refine qk ?_
    refine AL_say (k := 47) (vb ((decide (((s.size : Int) : Int) ≥ 1)) && (decide (((s.size : Int) : Int) ≤ 32)))) rfl (by rw [hg43]; rfl) ?_
    refine AL_say (k := 43) (vb (decide (((s.size : Int) : Int) ≥ 1))) rfl (by rw [hg43]) ?_
    exact nl ⟨rfl,rfl,rfl,rfl,rfl,rfl,rfl,rfl,rfl,trivial⟩
   ·refine qz ?_
    refine qz ?_
    refine qz ?_
    refine qk ?_
    refine AL_say (k := 47) (vb ((decide (((s.size : Int) : Int) ≥ 1)) && (decide (((s.size : Int) : Int) ≤ 32)))) rfl (by rw [hg43]; rfl) ?_
    refine AL_say (k := 43) (vb (decide (((s.size : Int) : Int) ≥ 1))) rfl (by rw [hg43]) ?_
    exact nl ⟨rfl,rfl,rfl,rfl,rfl,rfl,rfl,rfl,rfl,trivial⟩
  ·refine qa ?_
   refine AL_keep [(7,_),(0,_),(2,_),(6,_)] ⟨rfl,rfl,rfl,rfl,trivial⟩ ?_
   refine AL_nil ?_
   refine AW_ret ?_
   exact ret_le2 (.inl rfl) rfl (by rw [nameF, hSi]; rfl) (.refl _)
def wordL : List UInt8 → Bool
 | [] => true
 | x :: l => if (!letterF ((x : UInt8).toNat : Int) && !digitF ((x : UInt8).toNat : Int)) = true then false else wordL l
def head8 (l : List UInt8) : UInt8 := l.headD 0
theorem head8_get {l : List UInt8} (h : 0 < l.length) : l[0]? = some (head8 l) := by cases l with | nil => simp at h | cons x l => rfl
def wordF (s : ByteArray) (most : Int) : Bool := if ((decide ((s.size : Int) < 1) || decide ((s.size : Int) > most)) || !letterF ((head8 (bys s)).toNat : Int)) = true then false else wordL (bys s)
theorem word_ (s : ByteArray) (most : Int) (hs : s.size ≤ 1048576) : PFn PR (.fn (.func 78) [] []) [.lit (.string s), .lit (.int .i64 most)] (.lit (.bool (wordF s most))) := by
 have hsz := bsize s
 refine PFn_of Go.Proofs.Tryd.func78 rfl (by rfl) Go.Proofs.Tryd.ntmps78 rfl (by simp) fun h => ?_
 refine AW_seq (AW_region rfl ?_)
 refine qa (v := vb false) ?_
 refine AL_nil (AW_seq (AW_seq (AW_region rfl ?_)))
 refine qm ?_
 refine qp (v := vi (s.size : Int)) (PO_len_str rfl un9 rfl) ?_
 refine qp (v := vb (decide (((s.size : Int) : Int) < 1))) pI ?_
 refine qm ?_
 refine AL_jk 5 14 (vb ((decide (((s.size : Int) : Int) < 1)) || (decide (((s.size : Int) : Int) > most)))) [(0,_),(1,_),(4,_),(6,_),(7,_),(8,_),(9,_)] ⟨rfl,rfl,rfl,rfl,rfl,rfl,rfl,trivial⟩ ?_ ?_
 ·refine AL_split 9 _ rfl (fun hg9 => ?_) (fun hg9 => ?_)
  ·refine qz ?_
   refine qz ?_
   refine qz ?_
   refine qz ?_
   refine qk ?_
   refine AL_say (k := 14) (vb ((decide (((s.size : Int) : Int) < 1)) || (decide (((s.size : Int) : Int) > most)))) rfl (by rw [hg9]; rfl) ?_
   refine AL_say (k := 9) (vb (decide (((s.size : Int) : Int) < 1))) rfl (by rw [hg9]) ?_
   exact nl ⟨rfl,rfl,rfl,rfl,rfl,rfl,rfl,rfl,trivial⟩
  ·refine gm ?_
   refine qg (v := vi (s.size : Int)) (PO_len_str rfl un9 rfl) ?_
   refine gm ?_
   refine qg (v := vb (decide (((s.size : Int) : Int) > most))) pI ?_
   refine qk ?_
   refine AL_say (k := 14) (vb ((decide (((s.size : Int) : Int) < 1)) || (decide (((s.size : Int) : Int) > most)))) rfl (by rw [hg9]; rfl) ?_
   refine AL_say (k := 9) (vb (decide (((s.size : Int) : Int) < 1))) rfl (by rw [hg9]) ?_
   exact nl ⟨rfl,rfl,rfl,rfl,rfl,rfl,rfl,rfl,trivial⟩
 ·refine qm ?_
  refine AL_jk 5 20 (vb (((decide (((s.size : Int) : Int) < 1)) || (decide (((s.size : Int) : Int) > most))) || (!(letterF ((head8 (bys s) : UInt8).toNat : Int))))) [(14,_),(0,_),(1,_),(4,_),(6,_),(7,_),(8,_),(9,_),(15,_)] ⟨rfl,rfl,rfl,rfl,rfl,rfl,rfl,rfl,rfl,trivial⟩ ?_ ?_
  ·refine AL_split 15 _ rfl (fun hg15 => ?_) (fun hg15 => ?_)
   ·refine qz ?_
    refine qz ?_
    refine qz ?_
    refine qz ?_
    refine qk ?_
    refine AL_say (k := 20) (vb (((decide (((s.size : Int) : Int) < 1)) || (decide (((s.size : Int) : Int) > most))) || (!(letterF ((head8 (bys s) : UInt8).toNat : Int))))) rfl (by rw [hg15]; rfl) ?_
    refine AL_say (k := 15) (vb ((decide (((s.size : Int) : Int) < 1)) || (decide (((s.size : Int) : Int) > most)))) rfl (by rw [hg15]) ?_
    exact nl ⟨rfl,rfl,rfl,rfl,rfl,rfl,rfl,rfl,rfl,rfl,trivial⟩
   ·have hgg := hg15
    simp only [Bool.or_eq_false_iff, decide_eq_false_iff_not] at hgg
    refine gm ?_
    refine qg (v := .lit (.int .u8 ((head8 (bys s) : UInt8).toNat : Int))) (PO_index_str rfl un9 rfl rfl (by first | decide | omega) (bget (i := 0) (head8_get (by omega)))) ?_
    refine qg (v := vb (letterF ((head8 (bys s) : UInt8).toNat : Int))) (PO_call rfl rfl rfl (letter86_ _)) ?_
    refine qg (v := vb (!(letterF ((head8 (bys s) : UInt8).toNat : Int)))) (PO_not (b := (letterF ((head8 (bys s) : UInt8).toNat : Int))) rfl rfl) ?_
    refine qk ?_
    refine AL_say (k := 20) (vb (((decide (((s.size : Int) : Int) < 1)) || (decide (((s.size : Int) : Int) > most))) || (!(letterF ((head8 (bys s) : UInt8).toNat : Int))))) rfl (by rw [hg15]; rfl) ?_
    refine AL_say (k := 15) (vb ((decide (((s.size : Int) : Int) < 1)) || (decide (((s.size : Int) : Int) > most)))) rfl (by rw [hg15]) ?_
    exact nl ⟨rfl,rfl,rfl,rfl,rfl,rfl,rfl,rfl,rfl,rfl,trivial⟩
  ·refine AL_keep [(20,_),(0,_),(1,_),(4,_)] ⟨rfl,rfl,rfl,rfl,trivial⟩ ?_
   refine AL_nil ?_
   refine AW_cond _ rfl (fun hc1 => ?_) (fun hc1 => ?_)
   ·have hw : wordF s most = false := by rw [wordF, if_pos hc1]
    refine AW_seq (AW_region rfl ?_)
    refine qa (v := vb false) ?_
    refine AL_nil ?_
    refine AW_ret ?_
    exact ret_le2 (.inl rfl) rfl (by rw [hw]) (.refl _)
   ·have hw : wordF s most = wordL (bys s) := by rw [wordF, if_neg (by rw [hc1]; simp)]
    refine AW_skip (AW_seq (AW_seq (AW_region rfl ?_)))
    refine qa (v := vi 0) ?_
    refine AL_nil (AW_block ?_)
    refine AW_iter (fun (i : Nat) => [(5, .lit (.int .i64 ((i : Nat) : Int))), (0, .lit (.string s)), (4, .lit (.bool false))]) (fun (i : Nat) => h) (fun (i : Nat) => i ≤ (bys s).length ∧ wordL (bys s) = wordL ((bys s).drop i)) (fun (i : Nat) => (bys s).length - i) (0) ⟨rfl, rfl, rfl, trivial⟩ rfl (⟨by omega, rfl⟩) ?_
    rintro i ⟨hIi, hSi⟩
    refine AW_seq (AW_seq (AW_region rfl ?_))
    refine qm ?_
    refine qm ?_
    refine qp (v := vi (s.size : Int)) (PO_len_str rfl un9 rfl) ?_
    refine qp (v := vb (decide ((((i : Nat) : Int) : Int) < (s.size : Int)))) pI ?_
    refine AL_keep [(5,_),(0,_),(4,_),(24,_)] ⟨rfl,rfl,rfl,rfl,trivial⟩ ?_
    refine AL_nil ?_
    refine AW_cond _ rfl (fun hc0 => ?_) (fun hc0 => ?_)
    ·replace hc0 := of_decide_eq_true hc0
     obtain ⟨x, hrx, hdx, hmx⟩ := drop_at (l := (bys s)) (i := i) (by omega)
     rw [hdx, wordL] at hSi
     refine AW_skip (AW_seq (AW_block (AW_seq (AW_region rfl ?_))))
     refine qm ?_
     refine qm ?_
     refine qp (v := .lit (.int .u8 ((x : UInt8).toNat : Int))) (PO_index_str rfl un9 rfl rfl (by first | decide | omega) (bget hrx)) ?_
     refine qp (v := vb (letterF ((x : UInt8).toNat : Int))) (PO_call rfl rfl rfl (letter86_ _)) ?_
     refine qp (v := vb (!(letterF ((x : UInt8).toNat : Int)))) (PO_not (b := (letterF ((x : UInt8).toNat : Int))) rfl rfl) ?_
     refine qm ?_
     refine AL_jk 6 38 (vb ((!(letterF ((x : UInt8).toNat : Int))) && (!(digitF ((x : UInt8).toNat : Int))))) [(5,_),(0,_),(4,_),(27,_),(28,_),(29,_),(30,_),(31,_),(32,_)] ⟨rfl,rfl,rfl,rfl,rfl,rfl,rfl,rfl,rfl,trivial⟩ ?_ ?_
     ·refine AL_split 32 _ rfl (fun hg32 => ?_) (fun hg32 => ?_)
      ·refine gm ?_
       refine gm ?_
       refine qg (v := .lit (.int .u8 ((x : UInt8).toNat : Int))) (PO_index_str rfl un9 rfl rfl (by first | decide | omega) (bget hrx)) ?_
       refine qg (v := vb (digitF ((x : UInt8).toNat : Int))) (PO_call rfl rfl rfl (digit87_ _)) ?_
       refine qg (v := vb (!(digitF ((x : UInt8).toNat : Int)))) (PO_not (b := (digitF ((x : UInt8).toNat : Int))) rfl rfl) ?_
       refine qk ?_
       refine AL_say (k := 38) (vb ((!(letterF ((x : UInt8).toNat : Int))) && (!(digitF ((x : UInt8).toNat : Int))))) rfl (by rw [hg32]; rfl) ?_
       refine AL_say (k := 32) (vb (!(letterF ((x : UInt8).toNat : Int)))) rfl (by rw [hg32]) ?_
       exact nl ⟨rfl,rfl,rfl,rfl,rfl,rfl,rfl,rfl,rfl,rfl,trivial⟩
      ·refine qz ?_
       refine qz ?_
       refine qz ?_
       refine qz ?_
       refine qz ?_
       refine qk ?_
       refine AL_say (k := 38) (vb ((!(letterF ((x : UInt8).toNat : Int))) && (!(digitF ((x : UInt8).toNat : Int))))) rfl (by rw [hg32]; rfl) ?_
       refine AL_say (k := 32) (vb (!(letterF ((x : UInt8).toNat : Int)))) rfl (by rw [hg32]) ?_
       exact nl ⟨rfl,rfl,rfl,rfl,rfl,rfl,rfl,rfl,rfl,rfl,trivial⟩
     ·refine AL_keep [(38,_),(5,_),(0,_),(4,_)] ⟨rfl,rfl,rfl,rfl,trivial⟩ ?_
      refine AL_nil ?_
      refine AW_cond _ rfl (fun hc6 => ?_) (fun hc6 => ?_)
      ·rw [if_pos hc6] at hSi
       refine AW_seq (AW_region rfl ?_)
       refine qa (v := vb false) ?_
       refine AL_nil ?_
       refine AW_ret ?_
       exact ret_le2 (.inl rfl) rfl (by rw [hw, hSi]) (.refl _)
      ·rw [if_neg (by rw [hc6]; simp)] at hSi
       refine AW_skip (AW_region rfl ?_)
       refine qm ?_
       refine qp (v := vn (i + 1)) (PO_inc rfl rfl rfl (by first | omega | simp_all; omega)) ?_
       refine qa ?_
       refine AL_keep [(5,_),(0,_),(4,_)] ⟨rfl,rfl,rfl,trivial⟩ ?_
       refine AL_nil ?_
       exact ⟨i + 1, ⟨by omega, hSi⟩, by omega, ⟨rfl, ⟨rfl, rfl, rfl, trivial⟩, rfl, rfl, rfl⟩⟩
    ·replace hc0 := of_decide_eq_false hc0
     rw [drop_end (l := (bys s)) (i := i) (by omega), wordL] at hSi
     refine AW_exit ?_
     refine AW_seq (AW_region rfl ?_)
     refine qa (v := vb true) ?_
     refine AL_nil ?_
     refine AW_ret ?_
     exact ret_le2 (.inl rfl) rfl (by rw [hw, hSi]) (.refl _)
end Go.AM.Tryd
end
section
set_option maxRecDepth 100000
set_option linter.unusedVariables false
set_option linter.unusedSimpArgs false
namespace Go.AM.Tryd
open Go Go.AM Go.AM.D
def u8 (x : Int) : Int := IntKind.wrap .u8 x
def putI (r : Int) : List Int := if r ≤ 127 then [u8 r] else if r ≤ 2047 then [u8 (192 + r / 64), u8 (128 + r % 64)] else if r ≤ 65535 then [u8 (224 + r / 4096), u8 (128 + r / 64 % 64), u8 (128 + r % 64)] else [u8 (240 + r / 262144), u8 (128 + r / 4096 % 64), u8 (128 + r / 64 % 64), u8 (128 + r % 64)]
theorem mayF_iff {r : Int} (h : mayF r = true) : 0 ≤ r ∧ r ≤ 1114111 := by
 simp only [mayF, Bool.and_eq_true, decide_eq_true_eq] at h; omega
theorem put_ (r : Int) (hm : mayF r = true) : PFn PR (.fn (.func 104) [] []) [.lit (.int .i64 r)] (.sl .any 1 ((putI r).map eU8)) := by
 have hr := mayF_iff hm
 refine PFn_of Go.Proofs.Tryd.func104 rfl (by rfl) Go.Proofs.Tryd.ntmps104 rfl (by simp) fun h => ?_
 refine AW_seq (AW_region rfl ?_)
 refine qp (v := .sl .nil 1 []) (PO_nil_assign rfl) ?_
 refine AL_nil (AW_seq (AW_seq (AW_region rfl ?_)))
 refine qm ?_
 refine qp (v := vb (decide ((r : Int) ≤ 127))) pI ?_
 refine AL_keep [(0,_),(2,_),(4,_)] ⟨rfl,rfl,rfl,trivial⟩ ?_
 refine AL_nil ?_
 refine AW_cond _ rfl (fun hc1 => ?_) (fun hc1 => ?_)
 ·replace hc1 := of_decide_eq_true hc1
  refine AW_seq (AW_region rfl ?_)
  refine qm ?_
  refine qp (v := .lit (.int .u8 (IntKind.wrap .u8 r))) (PO_convInt rfl un3 un5 rfl) ?_
  refine qp (v := .sl .full 1 ([(IntKind.wrap .u8 r)].map eU8)) (PO_buildSlice (n := 1) (S := 1) (rs := [.lit (.int .u8 (IntKind.wrap .u8 r))] ++ []) rfl un50 ty5 z5 rfl rfl rfl (by decide) rfl (by decide)) ?_
  refine qa ?_
  refine AL_keep [(0,_),(2,_)] ⟨rfl,rfl,trivial⟩ ?_
  refine AL_nil ?_
  refine AW_any (k := 2) rfl ?_
  refine AW_ret ?_
  exact ret_le2 (.inl rfl) rfl (by rw [putI, if_pos (by omega)]; rfl) (.refl _)
 ·replace hc1 := of_decide_eq_false hc1
  refine AW_skip (AW_seq (AW_seq (AW_region rfl ?_)))
  refine qm ?_
  refine qp (v := vb (decide ((r : Int) ≤ 2047))) pI ?_
  refine AL_keep [(0,_),(2,_),(9,_)] ⟨rfl,rfl,rfl,trivial⟩ ?_
  refine AL_nil ?_
  refine AW_cond _ rfl (fun hc3 => ?_) (fun hc3 => ?_)
  ·replace hc3 := of_decide_eq_true hc3
   refine AW_seq (AW_region rfl ?_)
   refine qm ?_
   refine qp (v := vi (r / 64)) (PO_fit rfl rfl rfl rfl (by simp [divSafe]) (quoE (by omega) (by omega) (by omega))) ?_
   refine qp (v := vi (192 + (r / 64))) (PO_fit rfl rfl rfl rfl trivial (i64w (by omega) (by omega))) ?_
   refine qp (v := .lit (.int .u8 (IntKind.wrap .u8 (192 + (r / 64))))) (PO_convInt rfl un3 un5 rfl) ?_
   refine qm ?_
   refine qp (v := vi (r % 64)) (PO_fit rfl rfl rfl rfl (by simp [divSafe]) (tmodE (by omega))) ?_
   refine qp (v := vi (128 + (r % 64))) (PO_fit rfl rfl rfl rfl trivial (i64w (by omega) (by omega))) ?_
   refine qp (v := .lit (.int .u8 (IntKind.wrap .u8 (128 + (r % 64))))) (PO_convInt rfl un3 un5 rfl) ?_
   refine qp (v := .sl .full 1 ([(IntKind.wrap .u8 (192 + (r / 64))), (IntKind.wrap .u8 (128 + (r % 64)))].map eU8)) (PO_buildSlice (n := 2) (S := 1) (rs := [.lit (.int .u8 (IntKind.wrap .u8 (192 + (r / 64))))] ++ ([.lit (.int .u8 (IntKind.wrap .u8 (128 + (r % 64))))] ++ [])) rfl un50 ty5 z5 rfl rfl rfl (by decide) rfl (by decide)) ?_
   refine qa ?_
   refine AL_keep [(0,_),(2,_)] ⟨rfl,rfl,trivial⟩ ?_
   refine AL_nil ?_
   refine AW_any (k := 2) rfl ?_
   refine AW_ret ?_
   exact ret_le2 (.inl rfl) rfl (by rw [putI, if_neg (by omega), if_pos (by omega)]; rfl) (.refl _)
  ·replace hc3 := of_decide_eq_false hc3
   refine AW_skip (AW_seq (AW_seq (AW_region rfl ?_)))
   refine qm ?_
   refine qp (v := vb (decide ((r : Int) ≤ 65535))) pI ?_
   refine AL_keep [(0,_),(2,_),(20,_)] ⟨rfl,rfl,rfl,trivial⟩ ?_
   refine AL_nil ?_
   refine AW_cond _ rfl (fun hc5 => ?_) (fun hc5 => ?_)
   ·replace hc5 := of_decide_eq_true hc5
    refine AW_seq (AW_region rfl ?_)
    refine qm ?_
    refine qp (v := vi (r / 4096)) (PO_fit rfl rfl rfl rfl (by simp [divSafe]) (quoE (by omega) (by omega) (by omega))) ?_
    refine qp (v := vi (224 + (r / 4096))) (PO_fit rfl rfl rfl rfl trivial (i64w (by omega) (by omega))) ?_
    refine qp (v := .lit (.int .u8 (IntKind.wrap .u8 (224 + (r / 4096))))) (PO_convInt rfl un3 un5 rfl) ?_
    refine qm ?_
    refine qp (v := vi (r / 64)) (PO_fit rfl rfl rfl rfl (by simp [divSafe]) (quoE (by omega) (by omega) (by omega))) ?_
    refine qp (v := vi ((r / 64) % 64)) (PO_fit rfl rfl rfl rfl (by simp [divSafe]) (tmodE (by omega))) ?_
    refine qp (v := vi (128 + ((r / 64) % 64))) (PO_fit rfl rfl rfl rfl trivial (i64w (by omega) (by omega))) ?_
    refine qp (v := .lit (.int .u8 (IntKind.wrap .u8 (128 + ((r / 64) % 64))))) (PO_convInt rfl un3 un5 rfl) ?_
    refine qm ?_
    refine qp (v := vi (r % 64)) (PO_fit rfl rfl rfl rfl (by simp [divSafe]) (tmodE (by omega))) ?_
    refine qp (v := vi (128 + (r % 64))) (PO_fit rfl rfl rfl rfl trivial (i64w (by omega) (by omega))) ?_
    refine qp (v := .lit (.int .u8 (IntKind.wrap .u8 (128 + (r % 64))))) (PO_convInt rfl un3 un5 rfl) ?_
    refine qp (v := .sl .full 1 ([(IntKind.wrap .u8 (224 + (r / 4096))), (IntKind.wrap .u8 (128 + ((r / 64) % 64))), (IntKind.wrap .u8 (128 + (r % 64)))].map eU8)) (PO_buildSlice (n := 3) (S := 1) (rs := [.lit (.int .u8 (IntKind.wrap .u8 (224 + (r / 4096))))] ++ ([.lit (.int .u8 (IntKind.wrap .u8 (128 + ((r / 64) % 64))))] ++ ([.lit (.int .u8 (IntKind.wrap .u8 (128 + (r % 64))))] ++ []))) rfl un50 ty5 z5 rfl rfl rfl (by decide) rfl (by decide)) ?_
    refine qa ?_
    refine AL_keep [(0,_),(2,_)] ⟨rfl,rfl,trivial⟩ ?_
    refine AL_nil ?_
    refine AW_any (k := 2) rfl ?_
    refine AW_ret ?_
    exact ret_le2 (.inl rfl) rfl (by rw [putI, if_neg (by omega), if_neg (by omega), if_pos (by omega)]; rfl) (.refl _)
   ·replace hc5 := of_decide_eq_false hc5
    refine AW_skip (AW_seq (AW_region rfl ?_))
    refine qm ?_
    refine qp (v := vi (r / 262144)) (PO_fit rfl rfl rfl rfl (by simp [divSafe]) (quoE (by omega) (by omega) (by omega))) ?_
    refine qp (v := vi (240 + (r / 262144))) (PO_fit rfl rfl rfl rfl trivial (i64w (by omega) (by omega))) ?_
    refine qp (v := .lit (.int .u8 (IntKind.wrap .u8 (240 + (r / 262144))))) (PO_convInt rfl un3 un5 rfl) ?_
    refine qm ?_
    refine qp (v := vi (r / 4096)) (PO_fit rfl rfl rfl rfl (by simp [divSafe]) (quoE (by omega) (by omega) (by omega))) ?_
    refine qp (v := vi ((r / 4096) % 64)) (PO_fit rfl rfl rfl rfl (by simp [divSafe]) (tmodE (by omega))) ?_
    refine qp (v := vi (128 + ((r / 4096) % 64))) (PO_fit rfl rfl rfl rfl trivial (i64w (by omega) (by omega))) ?_
    refine qp (v := .lit (.int .u8 (IntKind.wrap .u8 (128 + ((r / 4096) % 64))))) (PO_convInt rfl un3 un5 rfl) ?_
    refine qm ?_
    refine qp (v := vi (r / 64)) (PO_fit rfl rfl rfl rfl (by simp [divSafe]) (quoE (by omega) (by omega) (by omega))) ?_
    refine qp (v := vi ((r / 64) % 64)) (PO_fit rfl rfl rfl rfl (by simp [divSafe]) (tmodE (by omega))) ?_
    refine qp (v := vi (128 + ((r / 64) % 64))) (PO_fit rfl rfl rfl rfl trivial (i64w (by omega) (by omega))) ?_
    refine qp (v := .lit (.int .u8 (IntKind.wrap .u8 (128 + ((r / 64) % 64))))) (PO_convInt rfl un3 un5 rfl) ?_
    refine qm ?_
    refine qp (v := vi (r % 64)) (PO_fit rfl rfl rfl rfl (by simp [divSafe]) (tmodE (by omega))) ?_
    refine qp (v := vi (128 + (r % 64))) (PO_fit rfl rfl rfl rfl trivial (i64w (by omega) (by omega))) ?_
    refine qp (v := .lit (.int .u8 (IntKind.wrap .u8 (128 + (r % 64))))) (PO_convInt rfl un3 un5 rfl) ?_
    refine qp (v := .sl .full 1 ([(IntKind.wrap .u8 (240 + (r / 262144))), (IntKind.wrap .u8 (128 + ((r / 4096) % 64))), (IntKind.wrap .u8 (128 + ((r / 64) % 64))), (IntKind.wrap .u8 (128 + (r % 64)))].map eU8)) (PO_buildSlice (n := 4) (S := 1) (rs := [.lit (.int .u8 (IntKind.wrap .u8 (240 + (r / 262144))))] ++ ([.lit (.int .u8 (IntKind.wrap .u8 (128 + ((r / 4096) % 64))))] ++ ([.lit (.int .u8 (IntKind.wrap .u8 (128 + ((r / 64) % 64))))] ++ ([.lit (.int .u8 (IntKind.wrap .u8 (128 + (r % 64))))] ++ [])))) rfl un50 ty5 z5 rfl rfl rfl (by decide) rfl (by decide)) ?_
    refine qa ?_
    refine AL_keep [(0,_),(2,_)] ⟨rfl,rfl,trivial⟩ ?_
    refine AL_nil ?_
    refine AW_any (k := 2) rfl ?_
    refine AW_ret ?_
    exact ret_le2 (.inl rfl) rfl (by rw [putI, if_neg (by omega), if_neg (by omega), if_neg (by omega)]; rfl) (.refl _)
theorem emod_lea {x t : Int} (h : 0 ≤ x) (ht : 1 ≤ t) : x % t ≤ x := by
 have h1 := Int.emod_add_mul_ediv x t
 have h2 : 0 ≤ t * (x / t) := Int.mul_nonneg (by omega) (Int.ediv_nonneg h (by omega))
 omega
def tabF (n : Nat) : Int := [1, 1, 32, 16, 8].getD n 1
theorem tab_get {n : Nat} (h : n < 5) : ([1, 1, 32, 16, 8] : List Int)[n]? = some (tabF n) := by
 rcases n with _ | _ | _ | _ | _ | n <;> first | rfl | omega
theorem tabF_pos (n : Nat) : 1 ≤ tabF n := by
 rcases n with _ | _ | _ | _ | _ | n <;> simp [tabF]
def gstep (n i : Nat) (c : Int) : Int := if i = 0 ∧ 1 < n then c % tabF n else if 0 < i then c % 64 else c
def gacc (n : Nat) : Nat → Int → List UInt8 → Int
 | _, r, [] => r
 | i, r, x :: l => gacc n (i + 1) (64 * r + gstep n i (x.toNat : Int)) l
def getR (n : Nat) (s : ByteArray) : Int := gacc n 0 0 ((bys s).take n)
def getFrom : Nat → Nat → ByteArray → Int × Nat
 | 0, _, _ => (0, 0)
 | f + 1, n, s => if (decide ((n : Int) ≤ 4) && decide ((n : Int) ≤ (s.size : Int))) = true then if (mayF (getR n s) && decide (ofInts (putI (getR n s)) = s.extract 0 n)) = true then (getR n s, n) else getFrom f (n + 1) s else (0, 0)
def getF (s : ByteArray) : Int × Nat := getFrom 4 1 s
def gB : Nat → Int
 | 0 => 0
 | 1 => 255
 | 2 => 20000
 | 3 => 1300000
 | _ => 90000000
theorem gB_le (i : Nat) : gB i ≤ 90000000 := by rcases i with _ | _ | _ | _ | i <;> simp [gB]
theorem gstep_le {n i : Nat} {x : UInt8} (hi : i < 4) : 0 ≤ gstep n i (x.toNat : Int) ∧ ∀ r, r ≤ gB i → 64 * r + gstep n i (x.toNat : Int) ≤ gB (i + 1) := by
 have hx := x.toNat_lt
 have ht := tabF_pos n
 have h1 : 0 ≤ (x.toNat : Int) % tabF n := Int.emod_nonneg _ (by omega)
 have h2 : (x.toNat : Int) % tabF n ≤ (x.toNat : Int) := emod_lea (by omega) (by omega)
 rcases i with _ | _ | _ | _ | i
 ·unfold gstep; simp only [gB]; split
  ·exact ⟨h1, fun r hr => by omega⟩
  ·rw [if_neg (by omega)]; exact ⟨by omega, fun r hr => by omega⟩
 ·unfold gstep; simp only [gB]; rw [if_neg (by omega), if_pos (by omega)]; exact ⟨by omega, fun r hr => by omega⟩
 ·unfold gstep; simp only [gB]; rw [if_neg (by omega), if_pos (by omega)]; exact ⟨by omega, fun r hr => by omega⟩
 ·unfold gstep; simp only [gB]; rw [if_neg (by omega), if_pos (by omega)]; exact ⟨by omega, fun r hr => by omega⟩
 ·omega
theorem get93_ (s : ByteArray) (hs : s.size ≤ 1048576) : PFn PR (.fn (.func 93) [] []) [.lit (.string s)] (.tup [.lit (.int .i64 ((getF s).1)), .lit (.int .i64 ((getF s).2 : Int))]) := by
 have hsz := bsize s
 refine PFn_of Go.Proofs.Tryd.func93 rfl (by rfl) Go.Proofs.Tryd.ntmps93 rfl (by simp) fun h => ?_
 refine AW_seq (AW_region rfl ?_)
 refine qa (v := vi 0) ?_
 refine qa (v := vi 0) ?_
 refine AL_nil (AW_seq (AW_seq (AW_region rfl ?_)))
 refine qa (v := vi 1) ?_
 refine AL_nil (AW_block ?_)
 refine AW_iter (fun (n : Nat) => [(4, .lit (.int .i64 ((n : Nat) : Int))), (0, .lit (.string s)), (2, .lit (.int .i64 0)), (3, .lit (.int .i64 0))]) (fun (n : Nat) => h) (fun (n : Nat) => 1 ≤ n ∧ n ≤ 5 ∧ getF s = getFrom (5 - n) n s) (fun (n : Nat) => 5 - n) (1) ⟨rfl, rfl, rfl, rfl, trivial⟩ rfl (⟨by omega, by omega, rfl⟩) ?_
 rintro n ⟨hn1, hn5, hSn⟩
 refine AW_seq (AW_seq (AW_region rfl ?_))
 refine qm ?_
 refine qp (v := vb (decide ((((n : Nat) : Int) : Int) ≤ 4))) pI ?_
 refine qm ?_
 refine AL_jk 5 15 (vb ((decide ((((n : Nat) : Int) : Int) ≤ 4)) && (decide ((((n : Nat) : Int) : Int) ≤ (s.size : Int))))) [(4,_),(0,_),(2,_),(3,_),(8,_),(9,_),(10,_)] ⟨rfl,rfl,rfl,rfl,rfl,rfl,rfl,trivial⟩ ?_ ?_
 ·refine AL_split 10 _ rfl (fun hg10 => ?_) (fun hg10 => ?_)
  ·refine gm ?_
   refine gm ?_
   refine qg (v := vi (s.size : Int)) (PO_len_str rfl un9 rfl) ?_
   refine qg (v := vb (decide ((((n : Nat) : Int) : Int) ≤ (s.size : Int)))) pI ?_
   refine qk ?_
   refine AL_say (k := 15) (vb ((decide ((((n : Nat) : Int) : Int) ≤ 4)) && (decide ((((n : Nat) : Int) : Int) ≤ (s.size : Int))))) rfl (by rw [hg10]; rfl) ?_
   refine AL_say (k := 10) (vb (decide ((((n : Nat) : Int) : Int) ≤ 4))) rfl (by rw [hg10]) ?_
   exact nl ⟨rfl,rfl,rfl,rfl,rfl,rfl,rfl,rfl,trivial⟩
  ·refine qz ?_
   refine qz ?_
   refine qz ?_
   refine qz ?_
   refine qk ?_
   refine AL_say (k := 15) (vb ((decide ((((n : Nat) : Int) : Int) ≤ 4)) && (decide ((((n : Nat) : Int) : Int) ≤ (s.size : Int))))) rfl (by rw [hg10]; rfl) ?_
   refine AL_say (k := 10) (vb (decide ((((n : Nat) : Int) : Int) ≤ 4))) rfl (by rw [hg10]) ?_
   exact nl ⟨rfl,rfl,rfl,rfl,rfl,rfl,rfl,rfl,trivial⟩
 ·refine AL_keep [(15,_),(4,_),(0,_),(2,_),(3,_)] ⟨rfl,rfl,rfl,rfl,rfl,trivial⟩ ?_
  refine AL_nil ?_
  refine AW_cond _ rfl (fun hc2 => ?_) (fun hc2 => ?_)
  ·have hd2 := hc2
   simp only [Bool.and_eq_true, decide_eq_true_eq] at hd2
   have hf : getFrom (5 - n) n s = if (mayF (getR n s) && decide (ofInts (putI (getR n s)) = s.extract 0 n)) = true then (getR n s, n) else getFrom (5 - (n + 1)) (n + 1) s := by
    rw [show 5 - n = (5 - (n + 1)) + 1 by omega, getFrom, if_pos hc2]
   rw [hf] at hSn
   have hlen : ((bys s).take n).length = n := by rw [List.length_take]; omega
   refine AW_skip (AW_seq (AW_block (AW_seq (AW_region rfl ?_))))
   refine qa (v := vi 0) ?_
   refine AL_nil (AW_seq (AW_seq (AW_region rfl ?_)))
   refine qa (v := vi 0) ?_
   refine AL_nil (AW_block ?_)
   refine AW_iter (fun (z_ : Nat × Int) => match z_ with | (i, r) => [(6, .lit (.int .i64 ((i : Nat) : Int))), (5, .lit (.int .i64 r)), (4, .lit (.int .i64 ((n : Nat) : Int))), (0, .lit (.string s)), (2, .lit (.int .i64 0)), (3, .lit (.int .i64 0))]) (fun (z_ : Nat × Int) => match z_ with | (i, r) => h) (fun (z_ : Nat × Int) => match z_ with | (i, r) => i ≤ n ∧ 0 ≤ r ∧ r ≤ gB i ∧ getR n s = gacc n i r (((bys s).take n).drop i)) (fun (z_ : Nat × Int) => match z_ with | (i, r) => n - i) ((0, 0)) ⟨rfl, rfl, rfl, rfl, rfl, rfl, trivial⟩ rfl (⟨by omega, by omega, by simp [gB], rfl⟩) ?_
   rintro ⟨i, r⟩ ⟨hIi, hr0, hrB, hSi⟩
   refine AW_seq (AW_seq (AW_region rfl ?_))
   refine qm ?_
   refine qm ?_
   refine qp (v := vb (decide ((((i : Nat) : Int) : Int) < ((n : Nat) : Int)))) pI ?_
   refine AL_keep [(6,_),(5,_),(4,_),(0,_),(2,_),(3,_),(20,_)] ⟨rfl,rfl,rfl,rfl,rfl,rfl,rfl,trivial⟩ ?_
   refine AL_nil ?_
   refine AW_cond _ rfl (fun hc6 => ?_) (fun hc6 => ?_)
   ·replace hc6 := of_decide_eq_true hc6
    obtain ⟨x, hrx, hdx, hmx⟩ := drop_at (l := ((bys s).take n)) (i := i) (by omega)
    rw [hdx, gacc] at hSi
    have hgx := gstep_le (n := n) (x := x) (i := i) (by omega)
    have hst2 := hgx.2 r hrB
    have hB := gB_le i
    have hxlt := x.toNat_lt
    have ht := tabF_pos n
    have hx1 : 0 ≤ (x.toNat : Int) % tabF n := Int.emod_nonneg _ (by omega)
    have hx2 : (x.toNat : Int) % tabF n ≤ (x.toNat : Int) := emod_lea (by omega) (by omega)
    have hrs : (bys s)[i]? = some x := by rw [List.getElem?_take, if_pos (by omega)] at hrx; exact hrx
    refine AW_skip (AW_seq (AW_block (AW_seq (AW_region rfl ?_))))
    refine qm ?_
    refine qm ?_
    refine qp (v := .lit (.int .u8 ((x : UInt8).toNat : Int))) (PO_index_str rfl un9 rfl rfl (by first | decide | omega) (bget hrs)) ?_
    refine qp (v := vi ((x : UInt8).toNat : Int)) (PO_convU8 rfl un5 un3 rfl) ?_
    refine qa ?_
    refine AL_keep [(6,_),(5,_),(4,_),(0,_),(2,_),(3,_),(7,_)] ⟨rfl,rfl,rfl,rfl,rfl,rfl,rfl,trivial⟩ ?_
    refine AL_nil (AW_seq (AW_seq (AW_region rfl ?_)))
    refine qm ?_
    refine qp (v := vb (decide ((((i : Nat) : Int) : Int) = 0))) pI ?_
    refine qm ?_
    refine AL_jk 3 32 (vb ((decide ((((i : Nat) : Int) : Int) = 0)) && (decide ((((n : Nat) : Int) : Int) > 1)))) [(6,_),(5,_),(4,_),(0,_),(2,_),(3,_),(7,_),(27,_),(28,_),(29,_)] ⟨rfl,rfl,rfl,rfl,rfl,rfl,rfl,rfl,rfl,rfl,trivial⟩ ?_ ?_
    ·refine AL_split 29 _ rfl (fun hg29 => ?_) (fun hg29 => ?_)
     ·refine gm ?_
      refine qg (v := vb (decide ((((n : Nat) : Int) : Int) > 1))) pI ?_
      refine qk ?_
      refine AL_say (k := 32) (vb ((decide ((((i : Nat) : Int) : Int) = 0)) && (decide ((((n : Nat) : Int) : Int) > 1)))) rfl (by rw [hg29]; rfl) ?_
      refine AL_say (k := 29) (vb (decide ((((i : Nat) : Int) : Int) = 0))) rfl (by rw [hg29]) ?_
      exact nl ⟨rfl,rfl,rfl,rfl,rfl,rfl,rfl,rfl,rfl,rfl,rfl,trivial⟩
     ·refine qz ?_
      refine qz ?_
      refine qk ?_
      refine AL_say (k := 32) (vb ((decide ((((i : Nat) : Int) : Int) = 0)) && (decide ((((n : Nat) : Int) : Int) > 1)))) rfl (by rw [hg29]; rfl) ?_
      refine AL_say (k := 29) (vb (decide ((((i : Nat) : Int) : Int) = 0))) rfl (by rw [hg29]) ?_
      exact nl ⟨rfl,rfl,rfl,rfl,rfl,rfl,rfl,rfl,rfl,rfl,rfl,trivial⟩
    ·refine AL_keep [(32,_),(6,_),(5,_),(4,_),(0,_),(2,_),(3,_),(7,_)] ⟨rfl,rfl,rfl,rfl,rfl,rfl,rfl,rfl,trivial⟩ ?_
     refine AL_nil ?_
     refine AW_cond _ rfl (fun hc9 => ?_) (fun hc9 => ?_)
     ·have hd9 := hc9
      simp only [Bool.and_eq_true, decide_eq_true_eq] at hd9
      refine AW_region rfl ?_
      refine qm ?_
      refine qp (v := .sl .full 1 ([1, 1, 32, 16, 8].map eI64)) (PO_buildSlice (n := 5) (S := 1) (rs := [.lit (.int .i64 1)] ++ ([.lit (.int .i64 1)] ++ ([.lit (.int .i64 32)] ++ ([.lit (.int .i64 16)] ++ ([.lit (.int .i64 8)] ++ []))))) rfl un32 ty3 z3 rfl rfl rfl (by decide) rfl (by decide)) ?_
      refine qm ?_
      refine qp (v := .ip (eI64 (tabF n))) (PO_indexAddr rfl un32 ty3 rfl rfl (by first | decide | omega) (mget (tab_get (by omega)))) ?_
      refine qp (v := vi (tabF n)) (PO_load rfl ty3 rfl rfl) ?_
      refine qp (v := vi (((x : UInt8).toNat : Int) % tabF n)) (PO_fit rfl rfl rfl rfl (by simp only [divSafe]; omega) (tmodE (by omega))) ?_
      refine qa ?_
      refine AL_keep [(6,_),(5,_),(4,_),(0,_),(2,_),(3,_),(7,_)] ⟨rfl,rfl,rfl,rfl,rfl,rfl,rfl,trivial⟩ ?_
      refine AL_nil (AW_seq (AW_seq (AW_region rfl ?_)))
      refine qm ?_
      refine qp (v := vb (decide ((((i : Nat) : Int) : Int) > 0))) pI ?_
      refine AL_keep [(6,_),(5,_),(4,_),(0,_),(2,_),(3,_),(7,_),(40,_)] ⟨rfl,rfl,rfl,rfl,rfl,rfl,rfl,rfl,trivial⟩ ?_
      refine AL_nil ?_
      refine AW_cond _ rfl (fun hc11 => ?_) (fun hc11 => ?_)
      ·replace hc11 := of_decide_eq_true hc11
       have hst : gstep n i (x.toNat : Int) = (x.toNat : Int) % 64 := by unfold gstep; rw [if_neg (by omega), if_pos (by omega)]
       rw [hst] at hSi hst2 hgx
       refine AW_region rfl ?_
       refine qm ?_
       refine qp (v := vi ((((x : UInt8).toNat : Int) % tabF n) % 64)) (PO_fit rfl rfl rfl rfl (by simp [divSafe]) (tmodE (by omega))) ?_
       refine qa ?_
       refine AL_keep [(6,_),(5,_),(4,_),(0,_),(2,_),(3,_),(7,_)] ⟨rfl,rfl,rfl,rfl,rfl,rfl,rfl,trivial⟩ ?_
       refine AL_nil (AW_region rfl ?_)
       refine qm ?_
       refine qp (v := vi (64 * r)) (PO_fit rfl rfl rfl rfl trivial (i64w (by omega) (by omega))) ?_
       refine qm ?_
       refine qp (v := vi (64 * r + ((((x : UInt8).toNat : Int) % tabF n) % 64))) (PO_fit rfl rfl rfl rfl trivial (i64w (by omega) (by omega))) ?_
       refine qa ?_
       refine AL_keep [(6,_),(5,_),(4,_),(0,_),(2,_),(3,_),(7,_)] ⟨rfl,rfl,rfl,rfl,rfl,rfl,rfl,trivial⟩ ?_
       refine AL_nil (AW_region rfl ?_)
       refine qm ?_
       refine qp (v := vn (i + 1)) (PO_inc rfl rfl rfl (by first | omega | simp_all; omega)) ?_
       refine qa ?_
       refine AL_keep [(6,_),(5,_),(4,_),(0,_),(2,_),(3,_),(7,_)] ⟨rfl,rfl,rfl,rfl,rfl,rfl,rfl,trivial⟩ ?_
       refine AL_nil ?_
       first | exact ⟨(i + 1, _), ⟨by omega, by omega, hst2, hSi⟩, by simp only []; omega, ⟨rfl, ⟨rfl, rfl, rfl, rfl, rfl, rfl, trivial⟩, rfl, rfl, rfl⟩⟩ | (exfalso; omega)
      ·replace hc11 := of_decide_eq_false hc11
       have hst : gstep n i (x.toNat : Int) = (if i = 0 ∧ 1 < n then (x.toNat : Int) % tabF n else (x.toNat : Int)) := by unfold gstep; split; rfl; rw [if_neg (by omega)]
       first | rw [if_pos (by omega)] at hst | rw [if_neg (by omega)] at hst
       rw [hst] at hSi hst2 hgx
       refine AW_skip (AW_region rfl ?_)
       refine qm ?_
       refine qp (v := vi (64 * r)) (PO_fit rfl rfl rfl rfl trivial (i64w (by omega) (by omega))) ?_
       refine qm ?_
       refine qp (v := vi (64 * r + (((x : UInt8).toNat : Int) % tabF n))) (PO_fit rfl rfl rfl rfl trivial (i64w (by omega) (by omega))) ?_
       refine qa ?_
       refine AL_keep [(6,_),(5,_),(4,_),(0,_),(2,_),(3,_),(7,_)] ⟨rfl,rfl,rfl,rfl,rfl,rfl,rfl,trivial⟩ ?_
       refine AL_nil (AW_region rfl ?_)
       refine qm ?_
       refine qp (v := vn (i + 1)) (PO_inc rfl rfl rfl (by first | omega | simp_all; omega)) ?_
       refine qa ?_
       refine AL_keep [(6,_),(5,_),(4,_),(0,_),(2,_),(3,_),(7,_)] ⟨rfl,rfl,rfl,rfl,rfl,rfl,rfl,trivial⟩ ?_
       refine AL_nil ?_
       first | exact ⟨(i + 1, _), ⟨by omega, by omega, hst2, hSi⟩, by simp only []; omega, ⟨rfl, ⟨rfl, rfl, rfl, rfl, rfl, rfl, trivial⟩, rfl, rfl, rfl⟩⟩ | (exfalso; omega)
     ·have hd9 := hc9
      simp only [Bool.and_eq_false_iff, decide_eq_false_iff_not] at hd9
      refine AW_skip (AW_seq (AW_seq (AW_region rfl ?_)))
      refine qm ?_
      refine qp (v := vb (decide ((((i : Nat) : Int) : Int) > 0))) pI ?_
      refine AL_keep [(6,_),(5,_),(4,_),(0,_),(2,_),(3,_),(7,_),(40,_)] ⟨rfl,rfl,rfl,rfl,rfl,rfl,rfl,rfl,trivial⟩ ?_
      refine AL_nil ?_
      refine AW_cond _ rfl (fun hc11 => ?_) (fun hc11 => ?_)
      ·replace hc11 := of_decide_eq_true hc11
       have hst : gstep n i (x.toNat : Int) = (x.toNat : Int) % 64 := by unfold gstep; rw [if_neg (by omega), if_pos (by omega)]
       rw [hst] at hSi hst2 hgx
       refine AW_region rfl ?_
       refine qm ?_
       refine qp (v := vi (((x : UInt8).toNat : Int) % 64)) (PO_fit rfl rfl rfl rfl (by simp [divSafe]) (tmodE (by omega))) ?_
       refine qa ?_
       refine AL_keep [(6,_),(5,_),(4,_),(0,_),(2,_),(3,_),(7,_)] ⟨rfl,rfl,rfl,rfl,rfl,rfl,rfl,trivial⟩ ?_
       refine AL_nil (AW_region rfl ?_)
       refine qm ?_
       refine qp (v := vi (64 * r)) (PO_fit rfl rfl rfl rfl trivial (i64w (by omega) (by omega))) ?_
       refine qm ?_
       refine qp (v := vi (64 * r + (((x : UInt8).toNat : Int) % 64))) (PO_fit rfl rfl rfl rfl trivial (i64w (by omega) (by omega))) ?_
       refine qa ?_
       refine AL_keep [(6,_),(5,_),(4,_),(0,_),(2,_),(3,_),(7,_)] ⟨rfl,rfl,rfl,rfl,rfl,rfl,rfl,trivial⟩ ?_
       refine AL_nil (AW_region rfl ?_)
       refine qm ?_
       refine qp (v := vn (i + 1)) (PO_inc rfl rfl rfl (by first | omega | simp_all; omega)) ?_
       refine qa ?_
       refine AL_keep [(6,_),(5,_),(4,_),(0,_),(2,_),(3,_),(7,_)] ⟨rfl,rfl,rfl,rfl,rfl,rfl,rfl,trivial⟩ ?_
       refine AL_nil ?_
       first | exact ⟨(i + 1, _), ⟨by omega, by omega, hst2, hSi⟩, by simp only []; omega, ⟨rfl, ⟨rfl, rfl, rfl, rfl, rfl, rfl, trivial⟩, rfl, rfl, rfl⟩⟩ | (exfalso; omega)
      ·replace hc11 := of_decide_eq_false hc11
       have hst : gstep n i (x.toNat : Int) = (if i = 0 ∧ 1 < n then (x.toNat : Int) % tabF n else (x.toNat : Int)) := by unfold gstep; split; rfl; rw [if_neg (by omega)]
       first | rw [if_pos (by omega)] at hst | rw [if_neg (by omega)] at hst
       rw [hst] at hSi hst2 hgx
       refine AW_skip (AW_region rfl ?_)
       refine qm ?_
       refine qp (v := vi (64 * r)) (PO_fit rfl rfl rfl rfl trivial (i64w (by omega) (by omega))) ?_
       refine qm ?_
       refine qp (v := vi (64 * r + ((x : UInt8).toNat : Int))) (PO_fit rfl rfl rfl rfl trivial (i64w (by omega) (by omega))) ?_
       refine qa ?_
       refine AL_keep [(6,_),(5,_),(4,_),(0,_),(2,_),(3,_),(7,_)] ⟨rfl,rfl,rfl,rfl,rfl,rfl,rfl,trivial⟩ ?_
       refine AL_nil (AW_region rfl ?_)
       refine qm ?_
       refine qp (v := vn (i + 1)) (PO_inc rfl rfl rfl (by first | omega | simp_all; omega)) ?_
       refine qa ?_
       refine AL_keep [(6,_),(5,_),(4,_),(0,_),(2,_),(3,_),(7,_)] ⟨rfl,rfl,rfl,rfl,rfl,rfl,rfl,trivial⟩ ?_
       refine AL_nil ?_
       first | exact ⟨(i + 1, _), ⟨by omega, by omega, hst2, hSi⟩, by simp only []; omega, ⟨rfl, ⟨rfl, rfl, rfl, rfl, rfl, rfl, trivial⟩, rfl, rfl, rfl⟩⟩ | (exfalso; omega)
   ·replace hc6 := of_decide_eq_false hc6
    rw [drop_end (l := ((bys s).take n)) (i := i) (by omega), gacc] at hSi
    rw [hSi] at hSn
    refine AW_exit ?_
    refine AW_seq ?_
    refine AW_then (fun σ => At σ 60 [(6, .lit (.int .i64 ((i : Nat) : Int))), (5, .lit (.int .i64 r)), (4, .lit (.int .i64 ((n : Nat) : Int))), (0, .lit (.string s)), (2, .lit (.int .i64 0)), (3, .lit (.int .i64 0)), (57, .lit (.bool ((mayF r) && (decide (ofInts (putI r) = s.extract 0 n)))))] h [] h) ?_ ?_
    ·rcases Bool.eq_false_or_eq_true (mayF r) with hq14_0 | hq14_0
     ·refine AW_draw 11 [.lit (.int .i64 r), .lit (.bool true), .lit (.bool true), .lit (.int .i64 r), .sl .any 1 ((putI r).map eU8), .lit (.string (ofInts (putI r))), .lit (.string s), .lit (.int .i64 ((n : Nat) : Int)), .lit (.string (s.extract 0 n)), .lit (.bool (decide (ofInts (putI r) = s.extract 0 n))), .lit (.bool (decide (ofInts (putI r) = s.extract 0 n)))] [(6, .lit (.int .i64 ((i : Nat) : Int))), (5, .lit (.int .i64 r)), (4, .lit (.int .i64 ((n : Nat) : Int))), (0, .lit (.string s)), (2, .lit (.int .i64 0)), (3, .lit (.int .i64 0)), (57, .lit (.bool (decide (ofInts (putI r) = s.extract 0 n))))] rfl hmixed (by kernel_rfl) rfl (by kernel_rfl) ⟨
       ⟨[(5, .lit (.int .i64 r))], ⟨.inr ⟨by kernel_rfl, rfl⟩, trivial⟩, .inl ⟨rfl, PO_move rfl rfl⟩⟩,
       ⟨[(47, .lit (.int .i64 r))], ⟨.inl ⟨0, by kernel_rfl, rfl, rfl⟩, trivial⟩, .inl ⟨rfl, PO_eqv (PO_call rfl rfl rfl (may103_ _)) hq14_0⟩⟩,
       ⟨[(48, .lit (.bool true))], ⟨.inl ⟨1, by kernel_rfl, rfl, rfl⟩, trivial⟩, .inl ⟨rfl, PO_move rfl rfl⟩⟩,
       ⟨[(5, .lit (.int .i64 r)), (49, .lit (.bool true))], ⟨.inr ⟨by kernel_rfl, rfl⟩, .inl ⟨2, by kernel_rfl, rfl, rfl⟩, trivial⟩, .inl ⟨⟨49, rfl, .inl ⟨true, rfl, rfl⟩⟩, PO_move rfl rfl⟩⟩,
       ⟨[(50, .lit (.int .i64 r)), (49, .lit (.bool true))], ⟨.inl ⟨3, by kernel_rfl, rfl, rfl⟩, .inl ⟨2, by kernel_rfl, rfl, rfl⟩, trivial⟩, .inl ⟨⟨49, rfl, .inl ⟨true, rfl, rfl⟩⟩, PO_call rfl rfl rfl (put_ _ (by assumption))⟩⟩,
       ⟨[(51, .sl .any 1 ((putI r).map eU8)), (49, .lit (.bool true))], ⟨.inl ⟨4, by kernel_rfl, rfl, rfl⟩, .inl ⟨2, by kernel_rfl, rfl, rfl⟩, trivial⟩, .inl ⟨⟨49, rfl, .inl ⟨true, rfl, rfl⟩⟩, PO_convBytes rfl un50 un5 un9 rfl⟩⟩,
       ⟨[(0, .lit (.string s)), (49, .lit (.bool true))], ⟨.inr ⟨by kernel_rfl, rfl⟩, .inl ⟨2, by kernel_rfl, rfl, rfl⟩, trivial⟩, .inl ⟨⟨49, rfl, .inl ⟨true, rfl, rfl⟩⟩, PO_move rfl rfl⟩⟩,
       ⟨[(4, .lit (.int .i64 ((n : Nat) : Int))), (49, .lit (.bool true))], ⟨.inr ⟨by kernel_rfl, rfl⟩, .inl ⟨2, by kernel_rfl, rfl, rfl⟩, trivial⟩, .inl ⟨⟨49, rfl, .inl ⟨true, rfl, rfl⟩⟩, PO_move rfl rfl⟩⟩,
       ⟨[(53, .lit (.string s)), (54, .lit (.int .i64 ((n : Nat) : Int))), (49, .lit (.bool true))], ⟨.inl ⟨6, by kernel_rfl, rfl, rfl⟩, .inl ⟨7, by kernel_rfl, rfl, rfl⟩, .inl ⟨2, by kernel_rfl, rfl, rfl⟩, trivial⟩, .inl ⟨⟨49, rfl, .inl ⟨true, rfl, rfl⟩⟩, PO_slice_str (l := 0) (h := ((n : Nat) : Int)) rfl un9 rfl rfl rfl (by omega) (by omega) (by omega)⟩⟩,
       ⟨[(52, .lit (.string (ofInts (putI r)))), (55, .lit (.string (s.extract 0 n))), (49, .lit (.bool true))], ⟨.inl ⟨5, by kernel_rfl, rfl, rfl⟩, .inl ⟨8, by kernel_rfl, rfl, rfl⟩, .inl ⟨2, by kernel_rfl, rfl, rfl⟩, trivial⟩, .inl ⟨⟨49, rfl, .inl ⟨true, rfl, rfl⟩⟩, PO_str rfl rfl rfl rfl⟩⟩,
       ⟨[(49, .lit (.bool true)), (56, .lit (.bool (decide (ofInts (putI r) = s.extract 0 n))))], ⟨.inl ⟨2, by kernel_rfl, rfl, rfl⟩, .inl ⟨9, by kernel_rfl, rfl, rfl⟩, trivial⟩, .inl ⟨rfl, PO_pick rfl rfl rfl⟩⟩,
       trivial⟩ ⟨.inr ⟨by kernel_rfl, rfl⟩, .inr ⟨by kernel_rfl, rfl⟩, .inr ⟨by kernel_rfl, rfl⟩, .inr ⟨by kernel_rfl, rfl⟩, .inr ⟨by kernel_rfl, rfl⟩, .inr ⟨by kernel_rfl, rfl⟩, .inl ⟨10, by decide, rfl, rfl⟩, trivial⟩ ?_
      refine AL_say (k := 57) (vb ((mayF r) && (decide (ofInts (putI r) = s.extract 0 n)))) rfl (by simp only [hq14_0, Bool.true_and, Bool.false_and, Bool.true_or, Bool.false_or]) ?_
      refine AL_nil ?_
      exact ⟨rfl, ⟨rfl, rfl, rfl, rfl, rfl, rfl, rfl, trivial⟩, rfl, rfl, rfl⟩
     ·refine AW_draw 11 [.lit (.int .i64 r), .lit (.bool false), .lit (.bool false), .tup [], .tup [], .tup [], .tup [], .tup [], .tup [], .tup [], .lit (.bool false)] [(6, .lit (.int .i64 ((i : Nat) : Int))), (5, .lit (.int .i64 r)), (4, .lit (.int .i64 ((n : Nat) : Int))), (0, .lit (.string s)), (2, .lit (.int .i64 0)), (3, .lit (.int .i64 0)), (57, .lit (.bool false))] rfl hmixed (by kernel_rfl) rfl (by kernel_rfl) ⟨
       ⟨[(5, .lit (.int .i64 r))], ⟨.inr ⟨by kernel_rfl, rfl⟩, trivial⟩, .inl ⟨rfl, PO_move rfl rfl⟩⟩,
       ⟨[(47, .lit (.int .i64 r))], ⟨.inl ⟨0, by kernel_rfl, rfl, rfl⟩, trivial⟩, .inl ⟨rfl, PO_eqv (PO_call rfl rfl rfl (may103_ _)) hq14_0⟩⟩,
       ⟨[(48, .lit (.bool false))], ⟨.inl ⟨1, by kernel_rfl, rfl, rfl⟩, trivial⟩, .inl ⟨rfl, PO_move rfl rfl⟩⟩,
       ⟨[(49, .lit (.bool false))], ⟨.inl ⟨2, by kernel_rfl, rfl, rfl⟩, trivial⟩, .inr ⟨⟨49, rfl, .inl ⟨false, rfl, rfl⟩⟩, rfl⟩⟩,
       ⟨[(49, .lit (.bool false))], ⟨.inl ⟨2, by kernel_rfl, rfl, rfl⟩, trivial⟩, .inr ⟨⟨49, rfl, .inl ⟨false, rfl, rfl⟩⟩, rfl⟩⟩,
       ⟨[(49, .lit (.bool false))], ⟨.inl ⟨2, by kernel_rfl, rfl, rfl⟩, trivial⟩, .inr ⟨⟨49, rfl, .inl ⟨false, rfl, rfl⟩⟩, rfl⟩⟩,
       ⟨[(49, .lit (.bool false))], ⟨.inl ⟨2, by kernel_rfl, rfl, rfl⟩, trivial⟩, .inr ⟨⟨49, rfl, .inl ⟨false, rfl, rfl⟩⟩, rfl⟩⟩,
       ⟨[(49, .lit (.bool false))], ⟨.inl ⟨2, by kernel_rfl, rfl, rfl⟩, trivial⟩, .inr ⟨⟨49, rfl, .inl ⟨false, rfl, rfl⟩⟩, rfl⟩⟩,
       ⟨[(49, .lit (.bool false))], ⟨.inl ⟨2, by kernel_rfl, rfl, rfl⟩, trivial⟩, .inr ⟨⟨49, rfl, .inl ⟨false, rfl, rfl⟩⟩, rfl⟩⟩,
       ⟨[(49, .lit (.bool false))], ⟨.inl ⟨2, by kernel_rfl, rfl, rfl⟩, trivial⟩, .inr ⟨⟨49, rfl, .inl ⟨false, rfl, rfl⟩⟩, rfl⟩⟩,
       ⟨[(49, .lit (.bool false)), (56, .tup [])], ⟨.inl ⟨2, by kernel_rfl, rfl, rfl⟩, .inl ⟨9, by kernel_rfl, rfl, rfl⟩, trivial⟩, .inl ⟨rfl, PO_pick rfl rfl rfl⟩⟩,
       trivial⟩ ⟨.inr ⟨by kernel_rfl, rfl⟩, .inr ⟨by kernel_rfl, rfl⟩, .inr ⟨by kernel_rfl, rfl⟩, .inr ⟨by kernel_rfl, rfl⟩, .inr ⟨by kernel_rfl, rfl⟩, .inr ⟨by kernel_rfl, rfl⟩, .inl ⟨10, by decide, rfl, rfl⟩, trivial⟩ ?_
      refine AL_say (k := 57) (vb ((mayF r) && (decide (ofInts (putI r) = s.extract 0 n)))) rfl (by simp only [hq14_0, Bool.true_and, Bool.false_and, Bool.true_or, Bool.false_or]) ?_
      refine AL_nil ?_
      exact ⟨rfl, ⟨rfl, rfl, rfl, rfl, rfl, rfl, rfl, trivial⟩, rfl, rfl, rfl⟩
    ·intro σ hat
     refine AW_at hat ?_
     refine AW_cond _ rfl (fun hc14 => ?_) (fun hc14 => ?_)
     ·rw [if_pos hc14] at hSn
      refine AW_seq (AW_region rfl ?_)
      refine qm ?_
      refine qm ?_
      refine qa ?_
      refine qa ?_
      refine AL_keep [(6,_),(5,_),(4,_),(0,_),(2,_),(3,_)] ⟨rfl,rfl,rfl,rfl,rfl,rfl,trivial⟩ ?_
      refine AL_nil ?_
      refine AW_ret ?_
      exact ret_le2 (.inl rfl) rfl (by rw [hSn] <;> rfl) (.refl _)
     ·rw [if_neg (by rw [hc14]; simp)] at hSn
      refine AW_skip (AW_region rfl ?_)
      refine qm ?_
      refine qp (v := vn (n + 1)) (PO_inc rfl rfl rfl (by first | omega | simp_all; omega)) ?_
      refine qa ?_
      refine AL_keep [(6,_),(5,_),(4,_),(0,_),(2,_),(3,_)] ⟨rfl,rfl,rfl,rfl,rfl,rfl,trivial⟩ ?_
      refine AL_nil ?_
      exact ⟨n + 1, ⟨by omega, by omega, hSn⟩, by omega, ⟨rfl, ⟨rfl, rfl, rfl, rfl, trivial⟩, rfl, rfl, rfl⟩⟩
  ·have hf : getFrom (5 - n) n s = (0, 0) := by
    cases hk : 5 - n with
    | zero => rfl
    | succ k => rw [getFrom, if_neg (fun e => by rw [hc2] at e; cases e)]
   rw [hf] at hSn
   refine AW_exit ?_
   refine AW_seq (AW_region rfl ?_)
   refine qa (v := vi 0) ?_
   refine qa (v := vi 0) ?_
   refine AL_nil ?_
   refine AW_ret ?_
   exact ret_le2 (.inl rfl) rfl (by rw [hSn] <;> rfl) (.refl _)
end Go.AM.Tryd
end
section
set_option maxRecDepth 100000
set_option linter.unusedVariables false
set_option linter.unusedSimpArgs false
namespace Go.AM.Tryd
open Go Go.AM Go.AM.D
theorem getFrom_le (s : ByteArray) : ∀ f n, (getFrom f n s).2 ≤ s.size := by
 intro f
 induction f with
 | zero => intro n; simp [getFrom]
 | succ f ih =>
  intro n
  rw [getFrom]
  split
  ·rename_i h
   simp only [Bool.and_eq_true, decide_eq_true_eq] at h
   split
   ·simp only []; omega
   ·exact ih _
  ·simp
theorem getF_le (s : ByteArray) : (getF s).2 ≤ s.size := getFrom_le s 4 1
theorem piece_le (s : ByteArray) (k : Nat) (hk : k ≤ s.size) : (getF (s.extract k (min s.size (k + 4)))).2 ≤ s.size - k := by
 have := getF_le (s.extract k (min s.size (k + 4)))
 rw [ByteArray.size_extract] at this
 omega
def runesG (s : ByteArray) (k : Nat) (acc : List Rune) : List Rune × Nat :=
 if _h : k < s.size then
  if _h0 : (getF (s.extract k (min s.size (k + 4)))).2 = 0 then (acc, k) else runesG s (k + (getF (s.extract k (min s.size (k + 4)))).2) (acc ++ [⟨k, (getF (s.extract k (min s.size (k + 4)))).1⟩])
 else (acc, k)
termination_by s.size - k
theorem runesG_end {s : ByteArray} {k : Nat} {acc : List Rune} (h : ¬ k < s.size) : runesG s k acc = (acc, k) := by rw [runesG, dif_neg h]
theorem runesG_stop {s : ByteArray} {k : Nat} {acc : List Rune} (h : k < s.size) (h0 : (getF (s.extract k (min s.size (k + 4)))).2 = 0) : runesG s k acc = (acc, k) := by rw [runesG, dif_pos h, dif_pos h0]
theorem runesG_step {s : ByteArray} {k : Nat} {acc : List Rune} (h : k < s.size) (h0 : ¬ (getF (s.extract k (min s.size (k + 4)))).2 = 0) : runesG s k acc = runesG s (k + (getF (s.extract k (min s.size (k + 4)))).2) (acc ++ [⟨k, (getF (s.extract k (min s.size (k + 4)))).1⟩]) := by
 rw [runesG, dif_pos h, dif_neg h0]
theorem runes90_ (s : ByteArray) (hs : s.size ≤ 1048576) : PFn PR (.fn (.func 90) [] []) [.lit (.string s)] (.tup [.sl .any 2 (((runesG s 0 []).1).map eRune), .lit (.int .i64 (((runesG s 0 []).2 : Nat) : Int))]) := by
 refine PFn_of Go.Proofs.Tryd.func90 rfl (by rfl) Go.Proofs.Tryd.ntmps90 rfl (by simp) fun h => ?_
 refine AW_seq (AW_region rfl ?_)
 refine qp (v := .sl .nil 2 []) (PO_nil_assign rfl) ?_
 refine qa (v := vi 0) ?_
 refine AL_nil (AW_seq (AW_region rfl ?_))
 refine qp (v := .sl .nil 2 []) (PO_nil_assign rfl) ?_
 refine AL_nil (AW_seq (AW_region rfl ?_))
 refine qa (v := vi 0) ?_
 refine AL_nil (AW_seq (AW_block ?_))
 refine AW_iter (fun (z_ : Nat × List Rune × Own × Heap) => match z_ with | (k, acc, own, hp) => [(5, .lit (.int .i64 ((k : Nat) : Int))), (4, .sl own 2 (acc.map eRune)), (0, .lit (.string s)), (2, .sl .nil 2 []), (3, .lit (.int .i64 0))]) (fun (z_ : Nat × List Rune × Own × Heap) => match z_ with | (k, acc, own, hp) => hp) (fun (z_ : Nat × List Rune × Own × Heap) => match z_ with | (k, acc, own, hp) => k ≤ s.size ∧ runesG s 0 [] = runesG s k acc ∧ acc.length ≤ k ∧ Grow h 2 acc.length own hp) (fun (z_ : Nat × List Rune × Own × Heap) => match z_ with | (k, acc, own, hp) => s.size - k) ((0, [], .nil, h)) ⟨rfl, rfl, rfl, rfl, rfl, trivial⟩ rfl (⟨by omega, rfl, by simp, Grow.nil _ _ _⟩) ?_
 rintro ⟨k, acc, own, hp⟩ ⟨hk, hS, hA, hG⟩
 refine AW_seq (AW_seq (AW_region rfl ?_))
 refine qm ?_
 refine qm ?_
 refine qp (v := vi (s.size : Int)) (PO_len_str rfl un9 rfl) ?_
 refine qp (v := vb (decide ((((k : Nat) : Int) : Int) < (s.size : Int)))) pI ?_
 refine AL_keep [(5,_),(4,_),(0,_),(2,_),(3,_),(11,_)] ⟨rfl,rfl,rfl,rfl,rfl,rfl,trivial⟩ ?_
 refine AL_nil ?_
 refine AW_cond _ rfl (fun hc3 => ?_) (fun hc3 => ?_)
 ·replace hc3 := of_decide_eq_true hc3
  have hk3 : k < s.size := by omega
  have hpl := piece_le s k hk
  have hex : (s.extract k (min s.size (k + 4))).size ≤ 1048576 := by rw [ByteArray.size_extract]; omega
  refine AW_skip (AW_block (AW_seq (AW_region rfl ?_)))
  refine qm ?_
  refine qm ?_
  refine qm ?_
  refine qp (v := vi (s.size : Int)) (PO_len_str rfl un9 rfl) ?_
  refine qm ?_
  refine qp (v := vn (k + 4)) (PO_inc rfl rfl rfl (by first | omega | simp_all; omega)) ?_
  refine qp (v := vn (min s.size (k + 4))) (PO_eqI (PO_min rfl rfl rfl) (by split <;> omega)) ?_
  refine qp (v := vs (s.extract k (min s.size (k + 4)))) (PO_slice_str (l := ((k : Nat) : Int)) (h := ((min s.size (k + 4) : Nat) : Int)) rfl un9 rfl rfl rfl (by omega) (by omega) (by omega)) ?_
  refine qp (v := .tup [.lit (.int .i64 ((getF (s.extract k (min s.size (k + 4)))).1)), .lit (.int .i64 (((getF (s.extract k (min s.size (k + 4)))).2 : Nat) : Int))]) (PO_call rfl rfl rfl (get93_ _ (by first | assumption | omega))) ?_
  refine qm ?_
  refine qp (v := vi ((getF (s.extract k (min s.size (k + 4)))).1)) (PO_extract rfl rfl rfl) ?_
  refine qp (v := vn ((getF (s.extract k (min s.size (k + 4)))).2)) (PO_extract rfl rfl rfl) ?_
  refine qa ?_
  refine qa ?_
  refine AL_keep [(5,_),(4,_),(0,_),(2,_),(3,_),(6,_),(7,_)] ⟨rfl,rfl,rfl,rfl,rfl,rfl,rfl,trivial⟩ ?_
  refine AL_nil (AW_seq (AW_seq (AW_region rfl ?_)))
  refine qm ?_
  refine qp (v := vb (decide (((((getF (s.extract k (min s.size (k + 4)))).2 : Nat) : Int) : Int) = 0))) pI ?_
  refine AL_keep [(5,_),(4,_),(0,_),(2,_),(3,_),(6,_),(7,_),(25,_)] ⟨rfl,rfl,rfl,rfl,rfl,rfl,rfl,rfl,trivial⟩ ?_
  refine AL_nil ?_
  refine AW_cond _ rfl (fun hc5 => ?_) (fun hc5 => ?_)
  ·replace hc5 := of_decide_eq_true hc5
   rw [runesG_stop (k := k) hk3 (by omega)] at hS
   refine AW_exit ?_
   refine AW_seq (AW_region rfl ?_)
   refine qm ?_
   refine qm ?_
   refine qa ?_
   refine qa ?_
   refine AL_keep [(5,_),(4,_),(0,_),(2,_),(3,_),(6,_),(7,_)] ⟨rfl,rfl,rfl,rfl,rfl,rfl,rfl,trivial⟩ ?_
   refine AL_nil ?_
   refine AW_any (k := 2) rfl ?_
   refine AW_ret ?_
   exact ret_le2 (.inl rfl) rfl (by rw [hS]) hG.le
  ·replace hc5 := of_decide_eq_false hc5
   rw [runesG_step (k := k) hk3 (by omega)] at hS
   refine AW_skip (AW_seq (AW_region rfl ?_))
   refine qm ?_
   refine qm ?_
   refine qm ?_
   refine qp (v := .agg (eRune (⟨((k : Nat) : Int), (getF (s.extract k (min s.size (k + 4)))).1⟩ : Rune))) (PO_build rfl z155 pl155 rfl rfl) ?_
   refine qp (v := .sl .full 2 ([(⟨((k : Nat) : Int), (getF (s.extract k (min s.size (k + 4)))).1⟩ : Rune)].map eRune)) (PO_buildSlice (n := 1) (S := 2) (rs := eRune (⟨((k : Nat) : Int), (getF (s.extract k (min s.size (k + 4)))).1⟩ : Rune) ++ []) rfl un147 ty155 z155 rfl rfl rfl (by decide) rfl (by decide)) ?_
   refine AL_m rfl rfl rfl (MO_grow (acc := acc) (f := eRune) rfl un147 un147 ty155 z155 rfl by155 rfl rfl (.inl rfl) (by first | omega | simp) hG (by simp only [List.length_singleton]; omega) (by simp only [List.length_singleton]; omega)) ?_
   rintro _ h1 ⟨own1, rfl, hG1⟩
   refine qa ?_
   refine AL_keep [(5,_),(4,_),(0,_),(2,_),(3,_),(6,_),(7,_)] ⟨rfl,rfl,rfl,rfl,rfl,rfl,rfl,trivial⟩ ?_
   refine AL_nil (AW_region rfl ?_)
   refine qm ?_
   refine qm ?_
   refine qp (v := vn (k + (getF (s.extract k (min s.size (k + 4)))).2)) (PO_inc rfl rfl rfl (by first | omega | simp_all; omega)) ?_
   refine qa ?_
   refine AL_keep [(5,_),(4,_),(0,_),(2,_),(3,_),(6,_),(7,_)] ⟨rfl,rfl,rfl,rfl,rfl,rfl,rfl,trivial⟩ ?_
   refine AL_nil ?_
   exact ⟨(k + (getF (s.extract k (min s.size (k + 4)))).2, acc ++ [⟨k, (getF (s.extract k (min s.size (k + 4)))).1⟩], own1, h1), ⟨by omega, hS, by simp only [List.length_append, List.length_singleton]; omega, hG1⟩, by simp only []; omega, ⟨rfl, ⟨rfl, rfl, rfl, rfl, rfl, trivial⟩, rfl, rfl, rfl⟩⟩
 ·replace hc3 := of_decide_eq_false hc3
  rw [runesG_end (k := k) (by omega)] at hS
  refine AW_exit ?_
  refine AW_seq (AW_region rfl ?_)
  refine qm ?_
  refine qm ?_
  refine qa ?_
  refine qa ?_
  refine AL_keep [(5,_),(4,_),(0,_),(2,_),(3,_)] ⟨rfl,rfl,rfl,rfl,rfl,trivial⟩ ?_
  refine AL_nil ?_
  refine AW_any (k := 2) rfl ?_
  refine AW_ret ?_
  exact ret_le2 (.inl rfl) rfl (by rw [hS]) hG.le
def validR (s : ByteArray) : Bool := decide ((((runesG s 0 []).2 : Nat) : Int) = (s.size : Int))
theorem valid83_ (s : ByteArray) (hs : s.size ≤ 1048576) : PFn PR (.fn (.func 83) [] []) [.lit (.string s)] (.lit (.bool (validR s))) := by
 refine PFn_of Go.Proofs.Tryd.func83 rfl (by rfl) Go.Proofs.Tryd.ntmps83 rfl (by simp) fun h => ?_
 refine AW_seq (AW_region rfl ?_)
 refine qa (v := vb false) ?_
 refine AL_nil (AW_seq (AW_region rfl ?_))
 refine qm ?_
 refine qp (v := .tup [.sl .any 2 (((runesG s 0 []).1).map eRune), .lit (.int .i64 (((runesG s 0 []).2 : Nat) : Int))]) (PO_call rfl rfl rfl (runes90_ _ (by first | assumption | omega))) ?_
 refine qm ?_
 refine qp (v := .sl .any 2 (((runesG s 0 []).1).map eRune)) (PO_extract rfl rfl rfl) ?_
 refine qp (v := vn ((runesG s 0 []).2)) (PO_extract rfl rfl rfl) ?_
 refine qa ?_
 refine qa ?_
 refine AL_keep [(0,_),(2,_),(4,_)] ⟨rfl,rfl,rfl,trivial⟩ ?_
 refine AL_nil (AW_seq (AW_region rfl ?_))
 refine qm ?_
 refine qm ?_
 refine qp (v := vi (s.size : Int)) (PO_len_str rfl un9 rfl) ?_
 refine qp (v := vb (decide (((((runesG s 0 []).2 : Nat) : Int) : Int) = (s.size : Int)))) pI ?_
 refine qa ?_
 refine AL_keep [(0,_),(2,_),(4,_)] ⟨rfl,rfl,rfl,trivial⟩ ?_
 refine AL_nil ?_
 refine AW_ret ?_
 exact ret_le2 (.inl rfl) rfl (by rfl) (.refl _)
def iriB (c : Int) : Bool := (((decide (c ≤ 32) || inbF c (bys ⟨#[60, 62, 123, 125, 124, 94]⟩)) || decide (c = 34)) || decide (c = 92)) || decide (c = 96)
def iriL : List UInt8 → Bool
 | [] => true
 | x :: l => if iriB ((x : UInt8).toNat : Int) = true then false else iriL l
def iriR (s : ByteArray) : Bool := if ((decide ((s.size : Int) < 1) || decide ((s.size : Int) > 1000)) || !validR s) = true then false else iriL (bys s)
theorem iri84_ (s : ByteArray) (hs : s.size ≤ 1048576) : PFn PR (.fn (.func 84) [] []) [.lit (.string s)] (.lit (.bool (iriR s))) := by
 have hsz := bsize s
 refine PFn_of Go.Proofs.Tryd.func84 rfl (by rfl) Go.Proofs.Tryd.ntmps84 rfl (by simp) fun h => ?_
 refine AW_seq (AW_region rfl ?_)
 refine qa (v := vb false) ?_
 refine AL_nil (AW_seq (AW_seq (AW_region rfl ?_)))
 refine qm ?_
 refine qp (v := vi (s.size : Int)) (PO_len_str rfl un9 rfl) ?_
 refine qp (v := vb (decide (((s.size : Int) : Int) < 1))) pI ?_
 refine qm ?_
 refine AL_jk 4 11 (vb ((decide (((s.size : Int) : Int) < 1)) || (decide (((s.size : Int) : Int) > 1000)))) [(0,_),(2,_),(4,_),(5,_),(6,_),(7,_)] ⟨rfl,rfl,rfl,rfl,rfl,rfl,trivial⟩ ?_ ?_
 ·refine AL_split 7 _ rfl (fun hg7 => ?_) (fun hg7 => ?_)
  ·refine qz ?_
   refine qz ?_
   refine qz ?_
   refine qk ?_
   refine AL_say (k := 11) (vb ((decide (((s.size : Int) : Int) < 1)) || (decide (((s.size : Int) : Int) > 1000)))) rfl (by rw [hg7]; rfl) ?_
   refine AL_say (k := 7) (vb (decide (((s.size : Int) : Int) < 1))) rfl (by rw [hg7]) ?_
   exact nl ⟨rfl,rfl,rfl,rfl,rfl,rfl,rfl,trivial⟩
  ·refine gm ?_
   refine qg (v := vi (s.size : Int)) (PO_len_str rfl un9 rfl) ?_
   refine qg (v := vb (decide (((s.size : Int) : Int) > 1000))) pI ?_
   refine qk ?_
   refine AL_say (k := 11) (vb ((decide (((s.size : Int) : Int) < 1)) || (decide (((s.size : Int) : Int) > 1000)))) rfl (by rw [hg7]; rfl) ?_
   refine AL_say (k := 7) (vb (decide (((s.size : Int) : Int) < 1))) rfl (by rw [hg7]) ?_
   exact nl ⟨rfl,rfl,rfl,rfl,rfl,rfl,rfl,trivial⟩
 ·refine qm ?_
  refine AL_jk 4 16 (vb (((decide (((s.size : Int) : Int) < 1)) || (decide (((s.size : Int) : Int) > 1000))) || (!(validR s)))) [(11,_),(0,_),(2,_),(4,_),(5,_),(6,_),(7,_),(12,_)] ⟨rfl,rfl,rfl,rfl,rfl,rfl,rfl,rfl,trivial⟩ ?_ ?_
  ·refine AL_split 12 _ rfl (fun hg12 => ?_) (fun hg12 => ?_)
   ·refine qz ?_
    refine qz ?_
    refine qz ?_
    refine qk ?_
    refine AL_say (k := 16) (vb (((decide (((s.size : Int) : Int) < 1)) || (decide (((s.size : Int) : Int) > 1000))) || (!(validR s)))) rfl (by rw [hg12]; rfl) ?_
    refine AL_say (k := 12) (vb ((decide (((s.size : Int) : Int) < 1)) || (decide (((s.size : Int) : Int) > 1000)))) rfl (by rw [hg12]) ?_
    exact nl ⟨rfl,rfl,rfl,rfl,rfl,rfl,rfl,rfl,rfl,trivial⟩
   ·refine gm ?_
    refine qg (v := vb (validR s)) (PO_call rfl rfl rfl (valid83_ _ (by first | assumption | omega))) ?_
    refine qg (v := vb (!(validR s))) (PO_not (b := (validR s)) rfl rfl) ?_
    refine qk ?_
    refine AL_say (k := 16) (vb (((decide (((s.size : Int) : Int) < 1)) || (decide (((s.size : Int) : Int) > 1000))) || (!(validR s)))) rfl (by rw [hg12]; rfl) ?_
    refine AL_say (k := 12) (vb ((decide (((s.size : Int) : Int) < 1)) || (decide (((s.size : Int) : Int) > 1000)))) rfl (by rw [hg12]) ?_
    exact nl ⟨rfl,rfl,rfl,rfl,rfl,rfl,rfl,rfl,rfl,trivial⟩
  ·refine AL_keep [(16,_),(0,_),(2,_)] ⟨rfl,rfl,rfl,trivial⟩ ?_
   refine AL_nil ?_
   refine AW_cond _ rfl (fun hc1 => ?_) (fun hc1 => ?_)
   ·have hw : iriR s = false := by rw [iriR, if_pos hc1]
    refine AW_seq (AW_region rfl ?_)
    refine qa (v := vb false) ?_
    refine AL_nil ?_
    refine AW_ret ?_
    exact ret_le2 (.inl rfl) rfl (by rw [hw]) (.refl _)
   ·have hw : iriR s = iriL (bys s) := by rw [iriR, if_neg (by rw [hc1]; simp)]
    refine AW_skip (AW_seq (AW_seq (AW_region rfl ?_)))
    refine qa (v := vi 0) ?_
    refine AL_nil (AW_block ?_)
    refine AW_iter (fun (i : Nat) => [(3, .lit (.int .i64 ((i : Nat) : Int))), (0, .lit (.string s)), (2, .lit (.bool false))]) (fun (i : Nat) => h) (fun (i : Nat) => i ≤ (bys s).length ∧ iriL (bys s) = iriL ((bys s).drop i)) (fun (i : Nat) => (bys s).length - i) (0) ⟨rfl, rfl, rfl, trivial⟩ rfl (⟨by omega, rfl⟩) ?_
    rintro i ⟨hIi, hSi⟩
    refine AW_seq (AW_seq (AW_region rfl ?_))
    refine qm ?_
    refine qm ?_
    refine qp (v := vi (s.size : Int)) (PO_len_str rfl un9 rfl) ?_
    refine qp (v := vb (decide ((((i : Nat) : Int) : Int) < (s.size : Int)))) pI ?_
    refine AL_keep [(3,_),(0,_),(2,_),(20,_)] ⟨rfl,rfl,rfl,rfl,trivial⟩ ?_
    refine AL_nil ?_
    refine AW_cond _ rfl (fun hc0 => ?_) (fun hc0 => ?_)
    ·replace hc0 := of_decide_eq_true hc0
     obtain ⟨x, hrx, hdx, hmx⟩ := drop_at (l := (bys s)) (i := i) (by omega)
     rw [hdx, iriL] at hSi
     refine AW_skip (AW_seq (AW_block (AW_seq (AW_region rfl ?_))))
     refine qm ?_
     refine qm ?_
     refine qp (v := .lit (.int .u8 ((x : UInt8).toNat : Int))) (PO_index_str rfl un9 rfl rfl (by first | decide | omega) (bget hrx)) ?_
     refine qp (v := vb (decide ((((x : UInt8).toNat : Int) : Int) ≤ 32))) pI ?_
     refine qm ?_
     refine AL_jk 5 32 (vb ((decide ((((x : UInt8).toNat : Int) : Int) ≤ 32)) || (inbF ((x : UInt8).toNat : Int) (bys ⟨#[60, 62, 123, 125, 124, 94]⟩)))) [(3,_),(0,_),(2,_),(23,_),(24,_),(25,_),(26,_),(27,_)] ⟨rfl,rfl,rfl,rfl,rfl,rfl,rfl,rfl,trivial⟩ ?_ ?_
     ·refine AL_split 27 _ rfl (fun hg27 => ?_) (fun hg27 => ?_)
      ·refine qz ?_
       refine qz ?_
       refine qz ?_
       refine qz ?_
       refine qk ?_
       refine AL_say (k := 32) (vb ((decide ((((x : UInt8).toNat : Int) : Int) ≤ 32)) || (inbF ((x : UInt8).toNat : Int) (bys ⟨#[60, 62, 123, 125, 124, 94]⟩)))) rfl (by rw [hg27]; rfl) ?_
       refine AL_say (k := 27) (vb (decide ((((x : UInt8).toNat : Int) : Int) ≤ 32))) rfl (by rw [hg27]) ?_
       exact nl ⟨rfl,rfl,rfl,rfl,rfl,rfl,rfl,rfl,rfl,trivial⟩
      ·refine gm ?_
       refine gm ?_
       refine qg (v := .lit (.int .u8 ((x : UInt8).toNat : Int))) (PO_index_str rfl un9 rfl rfl (by first | decide | omega) (bget hrx)) ?_
       refine qg (v := vb (inbF ((x : UInt8).toNat : Int) (bys ⟨#[60, 62, 123, 125, 124, 94]⟩))) (PO_call rfl rfl rfl (inb_ _ _ (by first | decide | omega))) ?_
       refine qk ?_
       refine AL_say (k := 32) (vb ((decide ((((x : UInt8).toNat : Int) : Int) ≤ 32)) || (inbF ((x : UInt8).toNat : Int) (bys ⟨#[60, 62, 123, 125, 124, 94]⟩)))) rfl (by rw [hg27]; rfl) ?_
       refine AL_say (k := 27) (vb (decide ((((x : UInt8).toNat : Int) : Int) ≤ 32))) rfl (by rw [hg27]) ?_
       exact nl ⟨rfl,rfl,rfl,rfl,rfl,rfl,rfl,rfl,rfl,trivial⟩
     ·refine qm ?_
      refine AL_jk 5 38 (vb (((decide ((((x : UInt8).toNat : Int) : Int) ≤ 32)) || (inbF ((x : UInt8).toNat : Int) (bys ⟨#[60, 62, 123, 125, 124, 94]⟩))) || (decide ((((x : UInt8).toNat : Int) : Int) = 34)))) [(32,_),(3,_),(0,_),(2,_),(23,_),(24,_),(25,_),(26,_),(27,_),(33,_)] ⟨rfl,rfl,rfl,rfl,rfl,rfl,rfl,rfl,rfl,rfl,trivial⟩ ?_ ?_
      ·refine AL_split 33 _ rfl (fun hg33 => ?_) (fun hg33 => ?_)
       ·refine qz ?_
        refine qz ?_
        refine qz ?_
        refine qz ?_
        refine qk ?_
        refine AL_say (k := 38) (vb (((decide ((((x : UInt8).toNat : Int) : Int) ≤ 32)) || (inbF ((x : UInt8).toNat : Int) (bys ⟨#[60, 62, 123, 125, 124, 94]⟩))) || (decide ((((x : UInt8).toNat : Int) : Int) = 34)))) rfl (by rw [hg33]; rfl) ?_
        refine AL_say (k := 33) (vb ((decide ((((x : UInt8).toNat : Int) : Int) ≤ 32)) || (inbF ((x : UInt8).toNat : Int) (bys ⟨#[60, 62, 123, 125, 124, 94]⟩)))) rfl (by rw [hg33]) ?_
        exact nl ⟨rfl,rfl,rfl,rfl,rfl,rfl,rfl,rfl,rfl,rfl,rfl,trivial⟩
       ·refine gm ?_
        refine gm ?_
        refine qg (v := .lit (.int .u8 ((x : UInt8).toNat : Int))) (PO_index_str rfl un9 rfl rfl (by first | decide | omega) (bget hrx)) ?_
        refine qg (v := vb (decide ((((x : UInt8).toNat : Int) : Int) = 34))) pI ?_
        refine qk ?_
        refine AL_say (k := 38) (vb (((decide ((((x : UInt8).toNat : Int) : Int) ≤ 32)) || (inbF ((x : UInt8).toNat : Int) (bys ⟨#[60, 62, 123, 125, 124, 94]⟩))) || (decide ((((x : UInt8).toNat : Int) : Int) = 34)))) rfl (by rw [hg33]; rfl) ?_
        refine AL_say (k := 33) (vb ((decide ((((x : UInt8).toNat : Int) : Int) ≤ 32)) || (inbF ((x : UInt8).toNat : Int) (bys ⟨#[60, 62, 123, 125, 124, 94]⟩)))) rfl (by rw [hg33]) ?_
        exact nl ⟨rfl,rfl,rfl,rfl,rfl,rfl,rfl,rfl,rfl,rfl,rfl,trivial⟩
      ·refine qm ?_
       refine AL_jk 5 44 (vb ((((decide ((((x : UInt8).toNat : Int) : Int) ≤ 32)) || (inbF ((x : UInt8).toNat : Int) (bys ⟨#[60, 62, 123, 125, 124, 94]⟩))) || (decide ((((x : UInt8).toNat : Int) : Int) = 34))) || (decide ((((x : UInt8).toNat : Int) : Int) = 92)))) [(38,_),(32,_),(3,_),(0,_),(2,_),(23,_),(24,_),(25,_),(26,_),(27,_),(33,_),(39,_)] ⟨rfl,rfl,rfl,rfl,rfl,rfl,rfl,rfl,rfl,rfl,rfl,rfl,trivial⟩ ?_ ?_
       ·refine AL_split 39 _ rfl (fun hg39 => ?_) (fun hg39 => ?_)
        ·refine qz ?_
         refine qz ?_
         refine qz ?_
         refine qz ?_
         refine qk ?_
         refine AL_say (k := 44) (vb ((((decide ((((x : UInt8).toNat : Int) : Int) ≤ 32)) || (inbF ((x : UInt8).toNat : Int) (bys ⟨#[60, 62, 123, 125, 124, 94]⟩))) || (decide ((((x : UInt8).toNat : Int) : Int) = 34))) || (decide ((((x : UInt8).toNat : Int) : Int) = 92)))) rfl (by rw [hg39]; rfl) ?_
         refine AL_say (k := 39) (vb (((decide ((((x : UInt8).toNat : Int) : Int) ≤ 32)) || (inbF ((x : UInt8).toNat : Int) (bys ⟨#[60, 62, 123, 125, 124, 94]⟩))) || (decide ((((x : UInt8).toNat : Int) : Int) = 34)))) rfl (by rw [hg39]) ?_
         exact nl ⟨rfl,rfl,rfl,rfl,rfl,rfl,rfl,rfl,rfl,rfl,rfl,rfl,rfl,trivial⟩
        ·refine gm ?_
         refine gm ?_
         refine qg (v := .lit (.int .u8 ((x : UInt8).toNat : Int))) (PO_index_str rfl un9 rfl rfl (by first | decide | omega) (bget hrx)) ?_
         refine qg (v := vb (decide ((((x : UInt8).toNat : Int) : Int) = 92))) pI ?_
         refine qk ?_
         refine AL_say (k := 44) (vb ((((decide ((((x : UInt8).toNat : Int) : Int) ≤ 32)) || (inbF ((x : UInt8).toNat : Int) (bys ⟨#[60, 62, 123, 125, 124, 94]⟩))) || (decide ((((x : UInt8).toNat : Int) : Int) = 34))) || (decide ((((x : UInt8).toNat : Int) : Int) = 92)))) rfl (by rw [hg39]; rfl) ?_
         refine AL_say (k := 39) (vb (((decide ((((x : UInt8).toNat : Int) : Int) ≤ 32)) || (inbF ((x : UInt8).toNat : Int) (bys ⟨#[60, 62, 123, 125, 124, 94]⟩))) || (decide ((((x : UInt8).toNat : Int) : Int) = 34)))) rfl (by rw [hg39]) ?_
         exact nl ⟨rfl,rfl,rfl,rfl,rfl,rfl,rfl,rfl,rfl,rfl,rfl,rfl,rfl,trivial⟩
       ·refine qm ?_
        refine AL_jk 5 50 (vb (((((decide ((((x : UInt8).toNat : Int) : Int) ≤ 32)) || (inbF ((x : UInt8).toNat : Int) (bys ⟨#[60, 62, 123, 125, 124, 94]⟩))) || (decide ((((x : UInt8).toNat : Int) : Int) = 34))) || (decide ((((x : UInt8).toNat : Int) : Int) = 92))) || (decide ((((x : UInt8).toNat : Int) : Int) = 96)))) [(44,_),(38,_),(32,_),(3,_),(0,_),(2,_),(23,_),(24,_),(25,_),(26,_),(27,_),(33,_),(39,_),(45,_)] ⟨rfl,rfl,rfl,rfl,rfl,rfl,rfl,rfl,rfl,rfl,rfl,rfl,rfl,rfl,trivial⟩ ?_ ?_
        ·refine AL_split 45 _ rfl (fun hg45 => ?_) (fun hg45 => ?_)
         ·refine qz ?_
          refine qz ?_
          refine qz ?_
          refine qz ?_
          refine qk ?_
          refine AL_say (k := 50) (vb (((((decide ((((x : UInt8).toNat : Int) : Int) ≤ 32)) || (inbF ((x : UInt8).toNat : Int) (bys ⟨#[60, 62, 123, 125, 124, 94]⟩))) || (decide ((((x : UInt8).toNat : Int) : Int) = 34))) || (decide ((((x : UInt8).toNat : Int) : Int) = 92))) || (decide ((((x : UInt8).toNat : Int) : Int) = 96)))) rfl (by rw [hg45]; rfl) ?_
          refine AL_say (k := 45) (vb ((((decide ((((x : UInt8).toNat : Int) : Int) ≤ 32)) || (inbF ((x : UInt8).toNat : Int) (bys ⟨#[60, 62, 123, 125, 124, 94]⟩))) || (decide ((((x : UInt8).toNat : Int) : Int) = 34))) || (decide ((((x : UInt8).toNat : Int) : Int) = 92)))) rfl (by rw [hg45]) ?_
          exact nl ⟨rfl,rfl,rfl,rfl,rfl,rfl,rfl,rfl,rfl,rfl,rfl,rfl,rfl,rfl,rfl,trivial⟩
         ·refine gm ?_
          refine gm ?_
          refine qg (v := .lit (.int .u8 ((x : UInt8).toNat : Int))) (PO_index_str rfl un9 rfl rfl (by first | decide | omega) (bget hrx)) ?_
          refine qg (v := vb (decide ((((x : UInt8).toNat : Int) : Int) = 96))) pI ?_
          refine qk ?_
          refine AL_say (k := 50) (vb (((((decide ((((x : UInt8).toNat : Int) : Int) ≤ 32)) || (inbF ((x : UInt8).toNat : Int) (bys ⟨#[60, 62, 123, 125, 124, 94]⟩))) || (decide ((((x : UInt8).toNat : Int) : Int) = 34))) || (decide ((((x : UInt8).toNat : Int) : Int) = 92))) || (decide ((((x : UInt8).toNat : Int) : Int) = 96)))) rfl (by rw [hg45]; rfl) ?_
          refine AL_say (k := 45) (vb ((((decide ((((x : UInt8).toNat : Int) : Int) ≤ 32)) || (inbF ((x : UInt8).toNat : Int) (bys ⟨#[60, 62, 123, 125, 124, 94]⟩))) || (decide ((((x : UInt8).toNat : Int) : Int) = 34))) || (decide ((((x : UInt8).toNat : Int) : Int) = 92)))) rfl (by rw [hg45]) ?_
          exact nl ⟨rfl,rfl,rfl,rfl,rfl,rfl,rfl,rfl,rfl,rfl,rfl,rfl,rfl,rfl,rfl,trivial⟩
        ·refine AL_keep [(50,_),(3,_),(0,_),(2,_)] ⟨rfl,rfl,rfl,rfl,trivial⟩ ?_
         refine AL_nil ?_
         refine AW_cond _ rfl (fun hc6 => ?_) (fun hc6 => ?_)
         ·rw [iriB, if_pos hc6] at hSi
          refine AW_seq (AW_region rfl ?_)
          refine qa (v := vb false) ?_
          refine AL_nil ?_
          refine AW_ret ?_
          exact ret_le2 (.inl rfl) rfl (by rw [hw, hSi]) (.refl _)
         ·rw [iriB, if_neg (by rw [hc6]; simp)] at hSi
          refine AW_skip (AW_region rfl ?_)
          refine qm ?_
          refine qp (v := vn (i + 1)) (PO_inc rfl rfl rfl (by first | omega | simp_all; omega)) ?_
          refine qa ?_
          refine AL_keep [(3,_),(0,_),(2,_)] ⟨rfl,rfl,rfl,trivial⟩ ?_
          refine AL_nil ?_
          exact ⟨i + 1, ⟨by omega, hSi⟩, by omega, ⟨rfl, ⟨rfl, rfl, rfl, trivial⟩, rfl, rfl, rfl⟩⟩
    ·replace hc0 := of_decide_eq_false hc0
     rw [drop_end (l := (bys s)) (i := i) (by omega), iriL] at hSi
     refine AW_exit ?_
     refine AW_seq (AW_region rfl ?_)
     refine qa (v := vb true) ?_
     refine AL_nil ?_
     refine AW_ret ?_
     exact ret_le2 (.inl rfl) rfl (by rw [hw, hSi]) (.refl _)
def prevB (l : List UInt8) : Nat → Int
 | 0 => 0
 | k + 1 => ((l.getD k 0).toNat : Int)
theorem bget_pred {s : ByteArray} {i : Nat} (h0 : 0 < i) (h : i ≤ s.size) : s[(((i : Nat) : Int) - 1).toNat]? = some ((bys s).getD (i - 1) 0) := by
 have := bget (s := s) (i := i - 1) (c := (bys s).getD (i - 1) 0) (by
  rw [List.getD_eq_getElem?_getD, List.getElem?_eq_getElem (by rw [bsize]; omega)]; rfl)
 rw [show (((i : Nat) : Int) - 1).toNat = (((i - 1 : Nat)) : Int).toNat by omega]; exact this
theorem bget_last {s : ByteArray} (h : 1 ≤ s.size) : s[((s.size : Int) - 1).toNat]? = some ((bys s).getD (s.size - 1) 0) := bget_pred h (Nat.le_refl _)
def tagB (first : Bool) (c : Int) : Bool := !(decide (c ≥ 97) && decide (c ≤ 122)) && (first || !digitF c)
def tagL (all : List UInt8) : Nat → Bool → List UInt8 → Bool
 | _, _, [] => true
 | i, first, x :: l => if decide (((x : UInt8).toNat : Int) = 45) = true then (if decide ((((all.getD (i - 1) 0) : UInt8).toNat : Int) = 45) = true then false else tagL all (i + 1) false l) else if tagB first ((x : UInt8).toNat : Int) = true then false else tagL all (i + 1) first l
def tagR (s : ByteArray) : Bool := if (((decide ((s.size : Int) < 1) || decide ((s.size : Int) > 35)) || decide (((head8 (bys s)).toNat : Int) = 45)) || decide (((((bys s).getD (s.size - 1) 0) : UInt8).toNat : Int) = 45)) = true then false else tagL (bys s) 0 true (bys s)
theorem tag85_ (s : ByteArray) (hs : s.size ≤ 1048576) : PFn PR (.fn (.func 85) [] []) [.lit (.string s)] (.lit (.bool (tagR s))) := by
 have hsz := bsize s
 refine PFn_of Go.Proofs.Tryd.func85 rfl (by rfl) Go.Proofs.Tryd.ntmps85 rfl (by simp) fun h => ?_
 refine AW_seq (AW_region rfl ?_)
 refine qa (v := vb false) ?_
 refine AL_nil (AW_seq (AW_seq (AW_region rfl ?_)))
 refine qm ?_
 refine qp (v := vi (s.size : Int)) (PO_len_str rfl un9 rfl) ?_
 refine qp (v := vb (decide (((s.size : Int) : Int) < 1))) pI ?_
 refine qm ?_
 refine AL_jk 4 13 (vb ((decide (((s.size : Int) : Int) < 1)) || (decide (((s.size : Int) : Int) > 35)))) [(0,_),(2,_),(6,_),(7,_),(8,_),(9,_)] ⟨rfl,rfl,rfl,rfl,rfl,rfl,trivial⟩ ?_ ?_
 ·refine AL_split 9 _ rfl (fun hg9 => ?_) (fun hg9 => ?_)
  ·refine qz ?_
   refine qz ?_
   refine qz ?_
   refine qk ?_
   refine AL_say (k := 13) (vb ((decide (((s.size : Int) : Int) < 1)) || (decide (((s.size : Int) : Int) > 35)))) rfl (by rw [hg9]; rfl) ?_
   refine AL_say (k := 9) (vb (decide (((s.size : Int) : Int) < 1))) rfl (by rw [hg9]) ?_
   exact nl ⟨rfl,rfl,rfl,rfl,rfl,rfl,rfl,trivial⟩
  ·refine gm ?_
   refine qg (v := vi (s.size : Int)) (PO_len_str rfl un9 rfl) ?_
   refine qg (v := vb (decide (((s.size : Int) : Int) > 35))) pI ?_
   refine qk ?_
   refine AL_say (k := 13) (vb ((decide (((s.size : Int) : Int) < 1)) || (decide (((s.size : Int) : Int) > 35)))) rfl (by rw [hg9]; rfl) ?_
   refine AL_say (k := 9) (vb (decide (((s.size : Int) : Int) < 1))) rfl (by rw [hg9]) ?_
   exact nl ⟨rfl,rfl,rfl,rfl,rfl,rfl,rfl,trivial⟩
 ·refine qm ?_
  refine AL_jk 4 18 (vb (((decide (((s.size : Int) : Int) < 1)) || (decide (((s.size : Int) : Int) > 35))) || (decide ((((head8 (bys s) : UInt8).toNat : Int) : Int) = 45)))) [(13,_),(0,_),(2,_),(6,_),(7,_),(8,_),(9,_),(14,_)] ⟨rfl,rfl,rfl,rfl,rfl,rfl,rfl,rfl,trivial⟩ ?_ ?_
  ·refine AL_split 14 _ rfl (fun hg14 => ?_) (fun hg14 => ?_)
   ·refine qz ?_
    refine qz ?_
    refine qz ?_
    refine qk ?_
    refine AL_say (k := 18) (vb (((decide (((s.size : Int) : Int) < 1)) || (decide (((s.size : Int) : Int) > 35))) || (decide ((((head8 (bys s) : UInt8).toNat : Int) : Int) = 45)))) rfl (by rw [hg14]; rfl) ?_
    refine AL_say (k := 14) (vb ((decide (((s.size : Int) : Int) < 1)) || (decide (((s.size : Int) : Int) > 35)))) rfl (by rw [hg14]) ?_
    exact nl ⟨rfl,rfl,rfl,rfl,rfl,rfl,rfl,rfl,rfl,trivial⟩
   ·have hd1 := hg14
    simp only [Bool.or_eq_false_iff, decide_eq_false_iff_not] at hd1
    refine gm ?_
    refine qg (v := .lit (.int .u8 ((head8 (bys s) : UInt8).toNat : Int))) (PO_index_str rfl un9 rfl rfl (by first | decide | omega) (bget (i := 0) (head8_get (by omega)))) ?_
    refine qg (v := vb (decide ((((head8 (bys s) : UInt8).toNat : Int) : Int) = 45))) pI ?_
    refine qk ?_
    refine AL_say (k := 18) (vb (((decide (((s.size : Int) : Int) < 1)) || (decide (((s.size : Int) : Int) > 35))) || (decide ((((head8 (bys s) : UInt8).toNat : Int) : Int) = 45)))) rfl (by rw [hg14]; rfl) ?_
    refine AL_say (k := 14) (vb ((decide (((s.size : Int) : Int) < 1)) || (decide (((s.size : Int) : Int) > 35)))) rfl (by rw [hg14]) ?_
    exact nl ⟨rfl,rfl,rfl,rfl,rfl,rfl,rfl,rfl,rfl,trivial⟩
  ·refine qm ?_
   refine AL_jk 7 26 (vb ((((decide (((s.size : Int) : Int) < 1)) || (decide (((s.size : Int) : Int) > 35))) || (decide ((((head8 (bys s) : UInt8).toNat : Int) : Int) = 45))) || (decide (((((bys s).getD (s.size - 1) 0 : UInt8).toNat : Int) : Int) = 45)))) [(18,_),(13,_),(0,_),(2,_),(6,_),(7,_),(8,_),(9,_),(14,_),(19,_)] ⟨rfl,rfl,rfl,rfl,rfl,rfl,rfl,rfl,rfl,rfl,trivial⟩ ?_ ?_
   ·refine AL_split 19 _ rfl (fun hg19 => ?_) (fun hg19 => ?_)
    ·refine qz ?_
     refine qz ?_
     refine qz ?_
     refine qz ?_
     refine qz ?_
     refine qz ?_
     refine qk ?_
     refine AL_say (k := 26) (vb ((((decide (((s.size : Int) : Int) < 1)) || (decide (((s.size : Int) : Int) > 35))) || (decide ((((head8 (bys s) : UInt8).toNat : Int) : Int) = 45))) || (decide (((((bys s).getD (s.size - 1) 0 : UInt8).toNat : Int) : Int) = 45)))) rfl (by rw [hg19]; rfl) ?_
     refine AL_say (k := 19) (vb (((decide (((s.size : Int) : Int) < 1)) || (decide (((s.size : Int) : Int) > 35))) || (decide ((((head8 (bys s) : UInt8).toNat : Int) : Int) = 45)))) rfl (by rw [hg19]) ?_
     exact nl ⟨rfl,rfl,rfl,rfl,rfl,rfl,rfl,rfl,rfl,rfl,rfl,trivial⟩
    ·have hd1 := hg19
     simp only [Bool.or_eq_false_iff, decide_eq_false_iff_not] at hd1
     refine gm ?_
     refine gm ?_
     refine qg (v := vi (s.size : Int)) (PO_len_str rfl un9 rfl) ?_
     refine qg (v := vi ((s.size : Int) - 1)) (PO_fit rfl rfl rfl rfl trivial (i64w (by omega) (by omega))) ?_
     refine qg (v := .lit (.int .u8 (((bys s).getD (s.size - 1) 0 : UInt8).toNat : Int))) (PO_index_str rfl un9 rfl rfl (by first | decide | omega) (bget_last (by omega))) ?_
     refine qg (v := vb (decide (((((bys s).getD (s.size - 1) 0 : UInt8).toNat : Int) : Int) = 45))) pI ?_
     refine qk ?_
     refine AL_say (k := 26) (vb ((((decide (((s.size : Int) : Int) < 1)) || (decide (((s.size : Int) : Int) > 35))) || (decide ((((head8 (bys s) : UInt8).toNat : Int) : Int) = 45))) || (decide (((((bys s).getD (s.size - 1) 0 : UInt8).toNat : Int) : Int) = 45)))) rfl (by rw [hg19]; rfl) ?_
     refine AL_say (k := 19) (vb (((decide (((s.size : Int) : Int) < 1)) || (decide (((s.size : Int) : Int) > 35))) || (decide ((((head8 (bys s) : UInt8).toNat : Int) : Int) = 45)))) rfl (by rw [hg19]) ?_
     exact nl ⟨rfl,rfl,rfl,rfl,rfl,rfl,rfl,rfl,rfl,rfl,rfl,trivial⟩
   ·refine AL_keep [(26,_),(0,_),(2,_)] ⟨rfl,rfl,rfl,trivial⟩ ?_
    refine AL_nil ?_
    refine AW_cond _ rfl (fun hc1 => ?_) (fun hc1 => ?_)
    ·have hw : tagR s = false := by rw [tagR, if_pos hc1]
     refine AW_seq (AW_region rfl ?_)
     refine qa (v := vb false) ?_
     refine AL_nil ?_
     refine AW_ret ?_
     exact ret_le2 (.inl rfl) rfl (by rw [hw]) (.refl _)
    ·have hw : tagR s = tagL (bys s) 0 true (bys s) := by rw [tagR, if_neg (by rw [hc1]; simp)]
     have hd1 := hc1
     simp only [Bool.or_eq_false_iff, decide_eq_false_iff_not] at hd1
     refine AW_skip (AW_seq (AW_region rfl ?_))
     refine qa (v := vb true) ?_
     refine AL_nil (AW_seq (AW_seq (AW_region rfl ?_)))
     refine qa (v := vi 0) ?_
     refine AL_nil (AW_block ?_)
     refine AW_iter (fun (z_ : Nat × Bool) => match z_ with | (i, first) => [(4, .lit (.int .i64 ((i : Nat) : Int))), (3, .lit (.bool first)), (0, .lit (.string s)), (2, .lit (.bool false))]) (fun (z_ : Nat × Bool) => match z_ with | (i, first) => h) (fun (z_ : Nat × Bool) => match z_ with | (i, first) => i ≤ (bys s).length ∧ tagL (bys s) 0 true (bys s) = tagL (bys s) i first ((bys s).drop i)) (fun (z_ : Nat × Bool) => match z_ with | (i, first) => (bys s).length - i) ((0, true)) ⟨rfl, rfl, rfl, rfl, trivial⟩ rfl (⟨by omega, rfl⟩) ?_
     rintro ⟨i, first⟩ ⟨hIi, hSi⟩
     refine AW_seq (AW_seq (AW_region rfl ?_))
     refine qm ?_
     refine qm ?_
     refine qp (v := vi (s.size : Int)) (PO_len_str rfl un9 rfl) ?_
     refine qp (v := vb (decide ((((i : Nat) : Int) : Int) < (s.size : Int)))) pI ?_
     refine AL_keep [(4,_),(3,_),(0,_),(2,_),(30,_)] ⟨rfl,rfl,rfl,rfl,rfl,trivial⟩ ?_
     refine AL_nil ?_
     refine AW_cond _ rfl (fun hc0 => ?_) (fun hc0 => ?_)
     ·replace hc0 := of_decide_eq_true hc0
      obtain ⟨x, hrx, hdx, hmx⟩ := drop_at (l := (bys s)) (i := i) (by omega)
      rw [hdx, tagL] at hSi
      refine AW_skip (AW_seq (AW_block (AW_seq (AW_region rfl ?_))))
      refine qm ?_
      refine qm ?_
      refine qp (v := .lit (.int .u8 ((x : UInt8).toNat : Int))) (PO_index_str rfl un9 rfl rfl (by first | decide | omega) (bget hrx)) ?_
      refine qp (v := vb (decide ((((x : UInt8).toNat : Int) : Int) ≥ 97))) pI ?_
      refine qm ?_
      refine AL_jk 5 42 (vb ((decide ((((x : UInt8).toNat : Int) : Int) ≥ 97)) && (decide ((((x : UInt8).toNat : Int) : Int) ≤ 122)))) [(4,_),(3,_),(0,_),(2,_),(33,_),(34,_),(35,_),(36,_),(37,_)] ⟨rfl,rfl,rfl,rfl,rfl,rfl,rfl,rfl,rfl,trivial⟩ ?_ ?_
      ·refine AL_split 37 _ rfl (fun hg37 => ?_) (fun hg37 => ?_)
       ·refine gm ?_
        refine gm ?_
        refine qg (v := .lit (.int .u8 ((x : UInt8).toNat : Int))) (PO_index_str rfl un9 rfl rfl (by first | decide | omega) (bget hrx)) ?_
        refine qg (v := vb (decide ((((x : UInt8).toNat : Int) : Int) ≤ 122))) pI ?_
        refine qk ?_
        refine AL_say (k := 42) (vb ((decide ((((x : UInt8).toNat : Int) : Int) ≥ 97)) && (decide ((((x : UInt8).toNat : Int) : Int) ≤ 122)))) rfl (by rw [hg37]; rfl) ?_
        refine AL_say (k := 37) (vb (decide ((((x : UInt8).toNat : Int) : Int) ≥ 97))) rfl (by rw [hg37]) ?_
        exact nl ⟨rfl,rfl,rfl,rfl,rfl,rfl,rfl,rfl,rfl,rfl,trivial⟩
       ·refine qz ?_
        refine qz ?_
        refine qz ?_
        refine qz ?_
        refine qk ?_
        refine AL_say (k := 42) (vb ((decide ((((x : UInt8).toNat : Int) : Int) ≥ 97)) && (decide ((((x : UInt8).toNat : Int) : Int) ≤ 122)))) rfl (by rw [hg37]; rfl) ?_
        refine AL_say (k := 37) (vb (decide ((((x : UInt8).toNat : Int) : Int) ≥ 97))) rfl (by rw [hg37]) ?_
        exact nl ⟨rfl,rfl,rfl,rfl,rfl,rfl,rfl,rfl,rfl,rfl,trivial⟩
      ·refine qa ?_
       refine AL_keep [(4,_),(3,_),(0,_),(2,_),(5,_)] ⟨rfl,rfl,rfl,rfl,rfl,trivial⟩ ?_
       refine AL_nil (AW_block (AW_seq (AW_region rfl ?_)))
       refine qm ?_
       refine qm ?_
       refine qp (v := .lit (.int .u8 ((x : UInt8).toNat : Int))) (PO_index_str rfl un9 rfl rfl (by first | decide | omega) (bget hrx)) ?_
       refine qp (v := vb (decide ((((x : UInt8).toNat : Int) : Int) = 45))) pI ?_
       refine qa ?_
       refine AL_keep [(4,_),(3,_),(0,_),(2,_),(5,_),(43,_)] ⟨rfl,rfl,rfl,rfl,rfl,rfl,trivial⟩ ?_
       refine AL_nil ?_
       refine AW_cond _ rfl (fun hc8 => ?_) (fun hc8 => ?_)
       ·replace hc8 := of_decide_eq_true hc8
        rw [if_pos (by simpa using hc8)] at hSi
        have hi0 : 0 < i := by
         rcases Nat.eq_zero_or_pos i with e | e
         ·subst e; rw [head8_get (by omega)] at hrx; injection hrx with hrx; rw [hrx] at hd1; exact absurd hc8 hd1.1.2
         ·exact e
        refine AW_seq (AW_seq (AW_region rfl ?_))
        refine qm ?_
        refine qm ?_
        refine qp (v := vi (((i : Nat) : Int) - 1)) (PO_fit rfl rfl rfl rfl trivial (i64w (by omega) (by omega))) ?_
        refine qp (v := .lit (.int .u8 (((bys s).getD (i - 1) 0 : UInt8).toNat : Int))) (PO_index_str rfl un9 rfl rfl (by first | decide | omega) (bget_pred (by omega) (by omega))) ?_
        refine qp (v := vb (decide (((((bys s).getD (i - 1) 0 : UInt8).toNat : Int) : Int) = 45))) pI ?_
        refine AL_keep [(4,_),(3,_),(0,_),(2,_),(5,_),(52,_)] ⟨rfl,rfl,rfl,rfl,rfl,rfl,trivial⟩ ?_
        refine AL_nil ?_
        refine AW_cond _ rfl (fun hc9 => ?_) (fun hc9 => ?_)
        ·replace hc9 := of_decide_eq_true hc9
         rw [if_pos (by simpa using hc9)] at hSi
         refine AW_seq (AW_region rfl ?_)
         refine qa (v := vb false) ?_
         refine AL_nil ?_
         refine AW_ret ?_
         exact ret_le2 (.inl rfl) rfl (by rw [hw, hSi]) (.refl _)
        ·replace hc9 := of_decide_eq_false hc9
         rw [if_neg (by simpa using hc9)] at hSi
         refine AW_skip (AW_region rfl ?_)
         refine qa (v := vb false) ?_
         refine AL_nil (AW_region rfl ?_)
         refine qm ?_
         refine qp (v := vn (i + 1)) (PO_inc rfl rfl rfl (by first | omega | simp_all; omega)) ?_
         refine qa ?_
         refine AL_keep [(4,_),(3,_),(0,_),(2,_),(5,_)] ⟨rfl,rfl,rfl,rfl,rfl,trivial⟩ ?_
         refine AL_nil ?_
         exact ⟨(i + 1, false), ⟨by omega, hSi⟩, by simp only []; omega, ⟨rfl, ⟨rfl, rfl, rfl, rfl, trivial⟩, rfl, rfl, rfl⟩⟩
       ·replace hc8 := of_decide_eq_false hc8
        rw [if_neg (by simpa using hc8)] at hSi
        refine AW_seq (AW_region rfl ?_)
        refine qm ?_
        refine qp (v := vb (!((decide ((((x : UInt8).toNat : Int) : Int) ≥ 97)) && (decide ((((x : UInt8).toNat : Int) : Int) ≤ 122))))) (PO_not (b := ((decide ((((x : UInt8).toNat : Int) : Int) ≥ 97)) && (decide ((((x : UInt8).toNat : Int) : Int) ≤ 122)))) rfl rfl) ?_
        refine qm ?_
        refine AL_jk 9 65 (vb ((!((decide ((((x : UInt8).toNat : Int) : Int) ≥ 97)) && (decide ((((x : UInt8).toNat : Int) : Int) ≤ 122)))) && (first || (!(digitF ((x : UInt8).toNat : Int)))))) [(4,_),(3,_),(0,_),(2,_),(5,_),(54,_),(55,_),(56,_)] ⟨rfl,rfl,rfl,rfl,rfl,rfl,rfl,rfl,trivial⟩ ?_ ?_
        ·refine AL_split 56 _ rfl (fun hg56 => ?_) (fun hg56 => ?_)
         ·refine gm ?_
          refine gm ?_
          refine AL_jk 6 64 (vb (first || (!(digitF ((x : UInt8).toNat : Int))))) [(4,_),(3,_),(0,_),(2,_),(5,_),(54,_),(55,_),(56,_),(57,_),(58,_)] ⟨rfl,rfl,rfl,rfl,rfl,rfl,rfl,rfl,rfl,rfl,trivial⟩ ?_ ?_
          ·refine AL_split 58 _ rfl (fun hg58 => ?_) (fun hg58 => ?_)
           ·refine qz ?_
            refine qz ?_
            refine qz ?_
            refine qz ?_
            refine qz ?_
            refine gk ?_
            refine AL_say (k := 64) (vb (first || (!(digitF ((x : UInt8).toNat : Int))))) rfl (by rw [hg58]; rfl) ?_
            refine AL_say (k := 58) (vb first) rfl (by rw [hg58]) ?_
            exact nl ⟨rfl,rfl,rfl,rfl,rfl,rfl,rfl,rfl,rfl,rfl,rfl,trivial⟩
           ·refine gm ?_
            refine gm ?_
            refine qg (v := .lit (.int .u8 ((x : UInt8).toNat : Int))) (PO_index_str rfl un9 rfl rfl (by first | decide | omega) (bget hrx)) ?_
            refine qg (v := vb (digitF ((x : UInt8).toNat : Int))) (PO_call rfl rfl rfl (digit87_ _)) ?_
            refine qg (v := vb (!(digitF ((x : UInt8).toNat : Int)))) (PO_not (b := (digitF ((x : UInt8).toNat : Int))) rfl rfl) ?_
            refine gk ?_
            refine AL_say (k := 64) (vb (first || (!(digitF ((x : UInt8).toNat : Int))))) rfl (by rw [hg58]; rfl) ?_
            refine AL_say (k := 58) (vb first) rfl (by rw [hg58]) ?_
            exact nl ⟨rfl,rfl,rfl,rfl,rfl,rfl,rfl,rfl,rfl,rfl,rfl,trivial⟩
          ·refine qk ?_
           refine AL_say (k := 65) (vb ((!((decide ((((x : UInt8).toNat : Int) : Int) ≥ 97)) && (decide ((((x : UInt8).toNat : Int) : Int) ≤ 122)))) && (first || (!(digitF ((x : UInt8).toNat : Int)))))) rfl (by rw [hg56]; rfl) ?_
           refine AL_say (k := 56) (vb (!((decide ((((x : UInt8).toNat : Int) : Int) ≥ 97)) && (decide ((((x : UInt8).toNat : Int) : Int) ≤ 122))))) rfl (by rw [hg56]) ?_
           exact nl ⟨rfl,rfl,rfl,rfl,rfl,rfl,rfl,rfl,rfl,trivial⟩
         ·refine qz ?_
          refine qz ?_
          refine qy ?_
          refine qy ?_
          refine qy ?_
          refine qy ?_
          refine qy ?_
          refine qz ?_
          refine qk ?_
          refine AL_say (k := 65) (vb ((!((decide ((((x : UInt8).toNat : Int) : Int) ≥ 97)) && (decide ((((x : UInt8).toNat : Int) : Int) ≤ 122)))) && (first || (!(digitF ((x : UInt8).toNat : Int)))))) rfl (by rw [hg56]; rfl) ?_
          refine AL_say (k := 56) (vb (!((decide ((((x : UInt8).toNat : Int) : Int) ≥ 97)) && (decide ((((x : UInt8).toNat : Int) : Int) ≤ 122))))) rfl (by rw [hg56]) ?_
          exact nl ⟨rfl,rfl,rfl,rfl,rfl,rfl,rfl,rfl,rfl,trivial⟩
        ·refine qa ?_
         refine AL_keep [(4,_),(3,_),(0,_),(2,_),(5,_),(53,_)] ⟨rfl,rfl,rfl,rfl,rfl,rfl,trivial⟩ ?_
         refine AL_nil ?_
         refine AW_cond _ rfl (fun hc12 => ?_) (fun hc12 => ?_)
         ·rw [tagB, if_pos hc12] at hSi
          refine AW_seq (AW_region rfl ?_)
          refine qa (v := vb false) ?_
          refine AL_nil ?_
          refine AW_ret ?_
          exact ret_le2 (.inl rfl) rfl (by rw [hw, hSi]) (.refl _)
         ·rw [tagB, if_neg (by rw [hc12]; simp)] at hSi
          refine AW_skip (AW_region rfl ?_)
          refine qm ?_
          refine qp (v := vn (i + 1)) (PO_inc rfl rfl rfl (by first | omega | simp_all; omega)) ?_
          refine qa ?_
          refine AL_keep [(4,_),(3,_),(0,_),(2,_),(5,_)] ⟨rfl,rfl,rfl,rfl,rfl,trivial⟩ ?_
          refine AL_nil ?_
          exact ⟨(i + 1, first), ⟨by omega, hSi⟩, by simp only []; omega, ⟨rfl, ⟨rfl, rfl, rfl, rfl, trivial⟩, rfl, rfl, rfl⟩⟩
     ·replace hc0 := of_decide_eq_false hc0
      rw [drop_end (l := (bys s)) (i := i) (by omega), tagL] at hSi
      refine AW_exit ?_
      refine AW_seq (AW_region rfl ?_)
      refine qa (v := vb true) ?_
      refine AL_nil ?_
      refine AW_ret ?_
      exact ret_le2 (.inl rfl) rfl (by rw [hw, hSi]) (.refl _)
end Go.AM.Tryd
end

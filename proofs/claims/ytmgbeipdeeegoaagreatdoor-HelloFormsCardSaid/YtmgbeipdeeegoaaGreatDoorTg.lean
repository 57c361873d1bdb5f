import Derived.Test.YtmgbeipdeeegoaaGreatDoorSk
import Derived.Test.YtmgbeipdeeegoaaGreatDoorOwn1
namespace Go.Proofs.YtmgbeipdeeegoaaGreatDoor.S
open Go.AE
set_option maxRecDepth 1000000
-- order: 42 25 26 27 54 36 24 43 60 72 59 44 45 28 48 47 61 46 29 11 35 21 38 40 39 37 22 55 41 23 10 30 31 16 17 9 13 15 14 4 6 7
/-- halberd/aead.Sizes -/
theorem tat42 : Tryz.prog.funcs[42]? = some Tryz.f42 := by kernel_rfl
theorem tok42 : fdOk Tryz.prog XX .e Tryz.f42 d42 = true := by kernel_rfl
theorem tsnd42 : Sound Tryz.prog 42 (callT .e d42) := fd_sound mixed extAdd extSub ΓOk.e ΓFine.e tat42 tok42
noncomputable def tG42 : Tr Ent := (.e : Tr Ent).set (.i (.i (.o (.i (.o .h))))) (some (.t (callT .e d42) 5))
theorem trd42 : rdC .e d42.code = true := by kernel_rfl
theorem tg42 : ΓFit Tryz.prog tG42 := (ΓFit.e : ΓFit Tryz.prog .e).rd (p := (.i (.i (.o (.i (.o .h)))))) (fd_fnOk tat42 tok42) tsnd42 trd42
/-- halberd/hello.suite -/
theorem tat25 : Tryz.prog.funcs[25]? = some Tryz.f25 := by kernel_rfl
theorem tok25 : fdOk Tryz.prog XX tG42 Tryz.f25 d25 = true := by kernel_rfl
theorem tsnd25 : Sound Tryz.prog 25 (callT tG42 d25) := fd_sound mixed extAdd extSub tg42.ok tg42.fine tat25 tok25
noncomputable def tG25 : Tr Ent := (tG42 : Tr Ent).set (.o (.i (.o (.i .h)))) (some (.t (callT tG42 d25) 3))
theorem tg25 : ΓFit Tryz.prog tG25 := tg42.tree (p := (.o (.i (.o (.i .h))))) (fd_fnOk tat25 tok25) tsnd25
/-- halberd/hello.group -/
theorem tat26 : Tryz.prog.funcs[26]? = some Tryz.f26 := by kernel_rfl
theorem tok26 : fdOk Tryz.prog XX tG25 Tryz.f26 d26 = true := by kernel_rfl
theorem tsnd26 : Sound Tryz.prog 26 (callT tG25 d26) := fd_sound mixed extAdd extSub tg25.ok tg25.fine tat26 tok26
noncomputable def tG26 : Tr Ent := (tG25 : Tr Ent).set (.i (.i (.o (.i .h)))) (some (.t (callT tG25 d26) 3))
theorem tg26 : ΓFit Tryz.prog tG26 := tg25.tree (p := (.i (.i (.o (.i .h))))) (fd_fnOk tat26 tok26) tsnd26
/-- halberd/hello.in -/
theorem tat27 : Tryz.prog.funcs[27]? = some Tryz.f27 := by kernel_rfl
theorem tok27 : fdOk Tryz.prog XX tG26 Tryz.f27 d27 = true := by kernel_rfl
theorem tsnd27 : Sound Tryz.prog 27 (callT tG26 d27) := fd_sound mixed extAdd extSub tg26.ok tg26.fine tat27 tok27
noncomputable def tF27 : Fc := fun args hp nx => match args with
  | [.int .i64 x, .int .i64 a, .int .i64 b] => some (.bool (decide (a ≤ x) && decide (x ≤ b)), hp, nx)
  | _ => none
theorem tin1 (x a b : Int) : (callT tG26 d27 [.int .i64 x, .int .i64 a, .int .i64 b] .e .h).tell 10 (.n 2 .z (.n 0 .z (.n 1 .z (.n 0 .z (.n 0 .t (.n 0 .z (.n 1 .z (.n 2 .z (.n 0 .z (.n 0 .z (.n 0 .z .e))))))))))) = some (.bool (decide (x ≤ b)), [decide (a ≤ x) = true]) := by kernel_rfl
theorem tin2 (x a b : Int) : (callT tG26 d27 [.int .i64 x, .int .i64 a, .int .i64 b] .e .h).tell 10 (.n 2 .z (.n 0 .z (.n 1 .z (.n 0 .z (.n 0 .f .e))))) = some (.bool false, [decide (a ≤ x) = false]) := by kernel_rfl
theorem town27 : Sound Tryz.prog 27 (Ent.f tF27 0).tc := by
  refine pure_sound tsnd27 fun args v h => ?_
  unfold tF27 at h
  split at h
  · rename_i x a b
    have h : some (V.bool (decide (a ≤ x) && decide (x ≤ b))) = some v := h
    cases h
    refine ⟨rfl, rfl, ?_⟩
    by_cases e : a ≤ x
    · exact tell_sound (tin1 x a b) ⟨decide_eq_true e, trivial⟩ fun hp nx => ⟨hp, nx, by simp [e]⟩
    · exact tell_sound (tin2 x a b) ⟨decide_eq_false e, trivial⟩ fun hp nx => ⟨hp, nx, by simp [e]⟩
  · cases h
noncomputable def tG27 : Tr Ent := (tG26 : Tr Ent).set (.o (.o (.i (.i .h)))) (some (.f tF27 0))
theorem tg27 : ΓFit Tryz.prog tG27 := tg26.put (p := (.o (.o (.i (.i .h))))) (fd_fnOk tat27 tok27) (town27) trivial
/-- slices.Index[[]int,int] -/
theorem tat54 : Tryz.prog.funcs[54]? = some Tryz.f54 := by kernel_rfl
theorem tok54 : fdOk Tryz.prog XX tG27 Tryz.f54 d54 = true := by kernel_rfl
theorem tsnd54 : Sound Tryz.prog 54 (callT tG27 d54) := fd_sound mixed extAdd extSub tg27.ok tg27.fine tat54 tok54
noncomputable def tG54 : Tr Ent := (tG27 : Tr Ent).set (.i (.i (.i (.o (.i .h))))) (some (.t (callT tG27 d54) 5))
theorem trd54 : rdC tG27 d54.code = true := by kernel_rfl
theorem tg54 : ΓFit Tryz.prog tG54 := tg27.rd (p := (.i (.i (.i (.o (.i .h)))))) (fd_fnOk tat54 tok54) tsnd54 trd54
/-- slices.Contains[[]int,int] -/
theorem tat36 : Tryz.prog.funcs[36]? = some Tryz.f36 := by kernel_rfl
theorem tok36 : fdOk Tryz.prog XX tG54 Tryz.f36 d36 = true := by kernel_rfl
theorem tsnd36 : Sound Tryz.prog 36 (callT tG54 d36) := fd_sound mixed extAdd extSub tg54.ok tg54.fine tat36 tok36
noncomputable def tG36 : Tr Ent := (tG54 : Tr Ent).set (.i (.o (.i (.o (.o .h))))) (some (.t (callT tG54 d36) 5))
theorem trd36 : rdC tG54 d36.code = true := by kernel_rfl
theorem tg36 : ΓFit Tryz.prog tG36 := tg54.rd (p := (.i (.o (.i (.o (.o .h)))))) (fd_fnOk tat36 tok36) tsnd36 trd36
/-- halberd/hello.each -/
theorem tat24 : Tryz.prog.funcs[24]? = some Tryz.f24 := by kernel_rfl
theorem tok24 : fdOk Tryz.prog XX tG36 Tryz.f24 d24 = true := by kernel_rfl
theorem tsnd24 : Sound Tryz.prog 24 (callT tG36 d24) := fd_sound mixed extAdd extSub tg36.ok tg36.fine tat24 tok24
noncomputable def tG24 : Tr Ent := (tG36 : Tr Ent).set (.i (.o (.o (.i .h)))) (some (.t (callT tG36 d24) 3))
theorem tg24 : ΓFit Tryz.prog tG24 := tg36.tree (p := (.i (.o (.o (.i .h))))) (fd_fnOk tat24 tok24) tsnd24
/-- halberd/pcurve.Scalar -/
theorem tat43 : Tryz.prog.funcs[43]? = some Tryz.f43 := by kernel_rfl
noncomputable def tG43 : Tr Ent := (tG24 : Tr Ent).set (.o (.o (.i (.i (.o .h))))) (some (.f Fscal 0))
theorem tg43 : ΓFit Tryz.prog tG43 := tg24.put (p := (.o (.o (.i (.i (.o .h)))))) ⟨Tryz.f43, tat43, by kernel_rfl, by kernel_rfl⟩ (scal_own) trivial
/-- halberd/hello.certs$1 -/
theorem tat60 : Tryz.prog.funcs[60]? = some Tryz.f60 := by kernel_rfl
theorem tok60 : fdOk Tryz.prog XX tG43 Tryz.f60 d60 = true := by kernel_rfl
theorem tsnd60 : Sound Tryz.prog 60 (callT tG43 d60) := fd_sound mixed extAdd extSub tg43.ok tg43.fine tat60 tok60
noncomputable def tG60 : Tr Ent := (tG43 : Tr Ent).set (.i (.o (.i (.i (.i .h))))) (some (.t (callT tG43 d60) 3))
theorem tg60 : ΓFit Tryz.prog tG60 := tg43.tree (p := (.i (.o (.i (.i (.i .h)))))) (fd_fnOk tat60 tok60) tsnd60
/-- slices.IndexFunc[[]string,string] -/
theorem tat72 : Tryz.prog.funcs[72]? = some Tryz.f72 := by kernel_rfl
theorem tok72 : fdOk Tryz.prog XX tG60 Tryz.f72 d72 = true := by kernel_rfl
theorem tsnd72 : Sound Tryz.prog 72 (callT tG60 d72) := fd_sound mixed extAdd extSub tg60.ok tg60.fine tat72 tok72
noncomputable def tG72 : Tr Ent := (tG60 : Tr Ent).set (.i (.o (.o (.i (.o (.o .h)))))) (some (.t (callT tG60 d72) 3))
theorem tg72 : ΓFit Tryz.prog tG72 := tg60.tree (p := (.i (.o (.o (.i (.o (.o .h))))))) (fd_fnOk tat72 tok72) tsnd72
/-- slices.ContainsFunc[[]string,string] -/
theorem tat59 : Tryz.prog.funcs[59]? = some Tryz.f59 := by kernel_rfl
theorem tok59 : fdOk Tryz.prog XX tG72 Tryz.f59 d59 = true := by kernel_rfl
theorem tsnd59 : Sound Tryz.prog 59 (callT tG72 d59) := fd_sound mixed extAdd extSub tg72.ok tg72.fine tat59 tok59
noncomputable def tG59 : Tr Ent := (tG72 : Tr Ent).set (.o (.o (.i (.i (.i .h))))) (some (.t (callT tG72 d59) 3))
theorem tg59 : ΓFit Tryz.prog tG59 := tg72.tree (p := (.o (.o (.i (.i (.i .h)))))) (fd_fnOk tat59 tok59) tsnd59
/-- halberd/hello.certs -/
theorem tat44 : Tryz.prog.funcs[44]? = some Tryz.f44 := by kernel_rfl
theorem tok44 : fdOk Tryz.prog XX tG59 Tryz.f44 d44 = true := by kernel_rfl
theorem tsnd44 : Sound Tryz.prog 44 (callT tG59 d44) := fd_sound mixed extAdd extSub tg59.ok tg59.fine tat44 tok44
noncomputable def tG44 : Tr Ent := (tG59 : Tr Ent).set (.i (.o (.i (.i (.o .h))))) (some (.t (callT tG59 d44) 3))
theorem tg44 : ΓFit Tryz.prog tG44 := tg59.tree (p := (.i (.o (.i (.i (.o .h)))))) (fd_fnOk tat44 tok44) tsnd44
/-- halberd/hello.fits -/
theorem tat45 : Tryz.prog.funcs[45]? = some Tryz.f45 := by kernel_rfl
theorem tok45 : fdOk Tryz.prog XX tG44 Tryz.f45 d45 = true := by kernel_rfl
theorem tsnd45 : Sound Tryz.prog 45 (callT tG44 d45) := fd_sound mixed extAdd extSub tg44.ok tg44.fine tat45 tok45
noncomputable def tG45 : Tr Ent := (tG44 : Tr Ent).set (.o (.i (.i (.i (.o .h))))) (some (.t (callT tG44 d45) 3))
theorem tg45 : ΓFit Tryz.prog tG45 := tg44.tree (p := (.o (.i (.i (.i (.o .h)))))) (fd_fnOk tat45 tok45) tsnd45
/-- halberd/hello.server -/
theorem tat28 : Tryz.prog.funcs[28]? = some Tryz.f28 := by kernel_rfl
theorem tok28 : fdOk Tryz.prog XX tG45 Tryz.f28 d28 = true := by kernel_rfl
theorem tsnd28 : Sound Tryz.prog 28 (callT tG45 d28) := fd_sound mixed extAdd extSub tg45.ok tg45.fine tat28 tok28
noncomputable def tG28 : Tr Ent := (tG45 : Tr Ent).set (.i (.o (.i (.i .h)))) (some (.t (callT tG45 d28) 3))
theorem tg28 : ΓFit Tryz.prog tG28 := tg45.tree (p := (.i (.o (.i (.i .h))))) (fd_fnOk tat28 tok28) tsnd28
/-- halberd/hello.psk -/
theorem tat48 : Tryz.prog.funcs[48]? = some Tryz.f48 := by kernel_rfl
theorem tok48 : fdOk Tryz.prog XX tG28 Tryz.f48 d48 = true := by kernel_rfl
theorem tsnd48 : Sound Tryz.prog 48 (callT tG28 d48) := fd_sound mixed extAdd extSub tg28.ok tg28.fine tat48 tok48
noncomputable def tG48 : Tr Ent := (tG28 : Tr Ent).set (.i (.o (.o (.o (.i .h))))) (some (.t (callT tG28 d48) 3))
theorem tg48 : ΓFit Tryz.prog tG48 := tg28.tree (p := (.i (.o (.o (.o (.i .h)))))) (fd_fnOk tat48 tok48) tsnd48
/-- halberd/hello.client$1 -/
theorem tat47 : Tryz.prog.funcs[47]? = some Tryz.f47 := by kernel_rfl
theorem tok47 : fdOk Tryz.prog XX tG48 Tryz.f47 d47 = true := by kernel_rfl
theorem tsnd47 : Sound Tryz.prog 47 (callT tG48 d47) := fd_sound mixed extAdd extSub tg48.ok tg48.fine tat47 tok47
noncomputable def tG47 : Tr Ent := (tG48 : Tr Ent).set (.o (.o (.o (.o (.i .h))))) (some (.t (callT tG48 d47) 3))
theorem tg47 : ΓFit Tryz.prog tG47 := tg48.tree (p := (.o (.o (.o (.o (.i .h)))))) (fd_fnOk tat47 tok47) tsnd47
/-- slices.IndexFunc[[]halberd/api.Psk,halberd/api.Psk] -/
theorem tat61 : Tryz.prog.funcs[61]? = some Tryz.f61 := by kernel_rfl
theorem tok61 : fdOk Tryz.prog XX tG47 Tryz.f61 d61 = true := by kernel_rfl
theorem tsnd61 : Sound Tryz.prog 61 (callT tG47 d61) := fd_sound mixed extAdd extSub tg47.ok tg47.fine tat61 tok61
noncomputable def tG61 : Tr Ent := (tG47 : Tr Ent).set (.o (.i (.i (.i (.i .h))))) (some (.t (callT tG47 d61) 3))
theorem tg61 : ΓFit Tryz.prog tG61 := tg47.tree (p := (.o (.i (.i (.i (.i .h)))))) (fd_fnOk tat61 tok61) tsnd61
/-- slices.ContainsFunc[[]halberd/api.Psk,halberd/api.Psk] -/
theorem tat46 : Tryz.prog.funcs[46]? = some Tryz.f46 := by kernel_rfl
theorem tok46 : fdOk Tryz.prog XX tG61 Tryz.f46 d46 = true := by kernel_rfl
theorem tsnd46 : Sound Tryz.prog 46 (callT tG61 d46) := fd_sound mixed extAdd extSub tg61.ok tg61.fine tat46 tok46
noncomputable def tG46 : Tr Ent := (tG61 : Tr Ent).set (.i (.i (.i (.i (.o .h))))) (some (.t (callT tG61 d46) 3))
theorem tg46 : ΓFit Tryz.prog tG46 := tg61.tree (p := (.i (.i (.i (.i (.o .h)))))) (fd_fnOk tat46 tok46) tsnd46
/-- halberd/hello.client -/
theorem tat29 : Tryz.prog.funcs[29]? = some Tryz.f29 := by kernel_rfl
theorem tok29 : fdOk Tryz.prog XX tG46 Tryz.f29 d29 = true := by kernel_rfl
theorem tsnd29 : Sound Tryz.prog 29 (callT tG46 d29) := fd_sound mixed extAdd extSub tg46.ok tg46.fine tat29 tok29
noncomputable def tG29 : Tr Ent := (tG46 : Tr Ent).set (.o (.i (.i (.i .h)))) (some (.t (callT tG46 d29) 3))
theorem tg29 : ΓFit Tryz.prog tG29 := tg46.tree (p := (.o (.i (.i (.i .h))))) (fd_fnOk tat29 tok29) tsnd29
/-- halberd/hello.May -/
theorem tat11 : Tryz.prog.funcs[11]? = some Tryz.f11 := by kernel_rfl
theorem tok11 : fdOk Tryz.prog XX tG29 Tryz.f11 d11 = true := by kernel_rfl
theorem tsnd11 : Sound Tryz.prog 11 (callT tG29 d11) := fd_sound mixed extAdd extSub tg29.ok tg29.fine tat11 tok11
noncomputable def tG11 : Tr Ent := (tG29 : Tr Ent).set (.o (.o (.i .h))) (some (.t (callT tG29 d11) 3))
theorem tg11 : ΓFit Tryz.prog tG11 := tg29.tree (p := (.o (.o (.i .h)))) (fd_fnOk tat11 tok11) tsnd11
/-- halberd/hello.first -/
theorem tat35 : Tryz.prog.funcs[35]? = some Tryz.f35 := by kernel_rfl
theorem tok35 : fdOk Tryz.prog XX tG11 Tryz.f35 d35 = true := by kernel_rfl
theorem tsnd35 : Sound Tryz.prog 35 (callT tG11 d35) := fd_sound mixed extAdd extSub tg11.ok tg11.fine tat35 tok35
noncomputable def tG35 : Tr Ent := (tG11 : Tr Ent).set (.o (.o (.i (.o (.o .h))))) (some (.t (callT tG11 d35) 5))
theorem trd35 : rdC tG11 d35.code = true := by kernel_rfl
theorem tg35 : ΓFit Tryz.prog tG35 := tg11.rd (p := (.o (.o (.i (.o (.o .h)))))) (fd_fnOk tat35 tok35) tsnd35 trd35
/-- (*halberd/hello.asking).offers -/
theorem tat21 : Tryz.prog.funcs[21]? = some Tryz.f21 := by kernel_rfl
theorem tok21 : fdOk Tryz.prog XX tG35 Tryz.f21 d21 = true := by kernel_rfl
theorem tsnd21 : Sound Tryz.prog 21 (callT tG35 d21) := fd_sound mixed extAdd extSub tg35.ok tg35.fine tat21 tok21
noncomputable def tG21 : Tr Ent := (tG35 : Tr Ent).set (.o (.i (.i (.o .h)))) (some (.t (callT tG35 d21) 3))
theorem tg21 : ΓFit Tryz.prog tG21 := tg35.tree (p := (.o (.i (.i (.o .h))))) (fd_fnOk tat21 tok21) tsnd21
/-- (*halberd/hello.asking).shares$1 -/
theorem tat38 : Tryz.prog.funcs[38]? = some Tryz.f38 := by kernel_rfl
theorem tok38 : fdOk Tryz.prog XX tG21 Tryz.f38 d38 = true := by kernel_rfl
theorem tsnd38 : Sound Tryz.prog 38 (callT tG21 d38) := fd_sound mixed extAdd extSub tg21.ok tg21.fine tat38 tok38
noncomputable def tG38 : Tr Ent := (tG21 : Tr Ent).set (.i (.i (.i (.o (.o .h))))) (some (.t (callT tG21 d38) 3))
theorem tg38 : ΓFit Tryz.prog tG38 := tg21.tree (p := (.i (.i (.i (.o (.o .h)))))) (fd_fnOk tat38 tok38) tsnd38
/-- (*halberd/hello.asking).shares$2 -/
theorem tat40 : Tryz.prog.funcs[40]? = some Tryz.f40 := by kernel_rfl
theorem tok40 : fdOk Tryz.prog XX tG38 Tryz.f40 d40 = true := by kernel_rfl
theorem tsnd40 : Sound Tryz.prog 40 (callT tG38 d40) := fd_sound mixed extAdd extSub tg38.ok tg38.fine tat40 tok40
noncomputable def tG40 : Tr Ent := (tG38 : Tr Ent).set (.i (.o (.o (.i (.o .h))))) (some (.t (callT tG38 d40) 3))
theorem tg40 : ΓFit Tryz.prog tG40 := tg38.tree (p := (.i (.o (.o (.i (.o .h)))))) (fd_fnOk tat40 tok40) tsnd40
/-- slices.IndexFunc[[]halberd/api.Share,halberd/api.Share] -/
theorem tat39 : Tryz.prog.funcs[39]? = some Tryz.f39 := by kernel_rfl
theorem tok39 : fdOk Tryz.prog XX tG40 Tryz.f39 d39 = true := by kernel_rfl
theorem tsnd39 : Sound Tryz.prog 39 (callT tG40 d39) := fd_sound mixed extAdd extSub tg40.ok tg40.fine tat39 tok39
noncomputable def tG39 : Tr Ent := (tG40 : Tr Ent).set (.o (.o (.o (.i (.o .h))))) (some (.t (callT tG40 d39) 3))
theorem tg39 : ΓFit Tryz.prog tG39 := tg40.tree (p := (.o (.o (.o (.i (.o .h)))))) (fd_fnOk tat39 tok39) tsnd39
/-- slices.ContainsFunc[[]halberd/api.Share,halberd/api.Share] -/
theorem tat37 : Tryz.prog.funcs[37]? = some Tryz.f37 := by kernel_rfl
theorem tok37 : fdOk Tryz.prog XX tG39 Tryz.f37 d37 = true := by kernel_rfl
theorem tsnd37 : Sound Tryz.prog 37 (callT tG39 d37) := fd_sound mixed extAdd extSub tg39.ok tg39.fine tat37 tok37
noncomputable def tG37 : Tr Ent := (tG39 : Tr Ent).set (.o (.i (.i (.o (.o .h))))) (some (.t (callT tG39 d37) 3))
theorem tg37 : ΓFit Tryz.prog tG37 := tg39.tree (p := (.o (.i (.i (.o (.o .h)))))) (fd_fnOk tat37 tok37) tsnd37
/-- (*halberd/hello.asking).shares -/
theorem tat22 : Tryz.prog.funcs[22]? = some Tryz.f22 := by kernel_rfl
theorem tok22 : fdOk Tryz.prog XX tG37 Tryz.f22 d22 = true := by kernel_rfl
theorem tsnd22 : Sound Tryz.prog 22 (callT tG37 d22) := fd_sound mixed extAdd extSub tg37.ok tg37.fine tat22 tok22
noncomputable def tG22 : Tr Ent := (tG37 : Tr Ent).set (.i (.i (.i (.o .h)))) (some (.t (callT tG37 d22) 3))
theorem tg22 : ΓFit Tryz.prog tG22 := tg37.tree (p := (.i (.i (.i (.o .h))))) (fd_fnOk tat22 tok22) tsnd22
/-- halberd/ticket.Open -/
theorem tat55 : Tryz.prog.funcs[55]? = some Tryz.f55 := by kernel_rfl
noncomputable def tG55 : Tr Ent := (tG22 : Tr Ent).set (.o (.o (.o (.i (.i .h))))) (some (.f (fun _ _ _ => none) 0))
theorem tg55 : ΓFit Tryz.prog tG55 := tg22.put (p := (.o (.o (.o (.i (.i .h)))))) ⟨Tryz.f55, tat55, by kernel_rfl, by kernel_rfl⟩ void_sound trivial
/-- halberd/hello.Opened -/
theorem tat41 : Tryz.prog.funcs[41]? = some Tryz.f41 := by kernel_rfl
theorem tok41 : fdOk Tryz.prog XX tG55 Tryz.f41 d41 = true := by kernel_rfl
theorem tsnd41 : Sound Tryz.prog 41 (callT tG55 d41) := fd_sound mixed extAdd extSub tg55.ok tg55.fine tat41 tok41
noncomputable def tG41 : Tr Ent := (tG55 : Tr Ent).set (.o (.i (.o (.i (.o .h))))) (some (.t (callT tG55 d41) 3))
theorem tg41 : ΓFit Tryz.prog tG41 := tg55.tree (p := (.o (.i (.o (.i (.o .h)))))) (fd_fnOk tat41 tok41) tsnd41
/-- (*halberd/hello.asking).proof -/
theorem tat23 : Tryz.prog.funcs[23]? = some Tryz.f23 := by kernel_rfl
theorem tok23 : fdOk Tryz.prog XX tG41 Tryz.f23 d23 = true := by kernel_rfl
theorem tsnd23 : Sound Tryz.prog 23 (callT tG41 d23) := fd_sound mixed extAdd extSub tg41.ok tg41.fine tat23 tok23
noncomputable def tG23 : Tr Ent := (tG41 : Tr Ent).set (.o (.o (.o (.i .h)))) (some (.t (callT tG41 d23) 3))
theorem tg23 : ΓFit Tryz.prog tG23 := tg41.tree (p := (.o (.o (.o (.i .h))))) (fd_fnOk tat23 tok23) tsnd23
/-- halberd/hello.Choose -/
theorem tat10 : Tryz.prog.funcs[10]? = some Tryz.f10 := by kernel_rfl
theorem tok10 : fdOk Tryz.prog XX tG23 Tryz.f10 d10 = true := by kernel_rfl
theorem tsnd10 : Sound Tryz.prog 10 (callT tG23 d10) := fd_sound mixed extAdd extSub tg23.ok tg23.fine tat10 tok10
noncomputable def tG10 : Tr Ent := (tG23 : Tr Ent).set (.i (.i (.o .h))) (some (.t (callT tG23 d10) 3))
theorem tg10 : ΓFit Tryz.prog tG10 := tg23.tree (p := (.i (.i (.o .h)))) (fd_fnOk tat10 tok10) tsnd10
/-- slices.Clone[[]int,int] -/
theorem tat30 : Tryz.prog.funcs[30]? = some Tryz.f30 := by kernel_rfl
theorem tok30 : fdOk Tryz.prog XX tG10 Tryz.f30 d30 = true := by kernel_rfl
theorem tsnd30 : Sound Tryz.prog 30 (callT tG10 d30) := fd_sound mixed extAdd extSub tg10.ok tg10.fine tat30 tok30
noncomputable def tG30 : Tr Ent := (tG10 : Tr Ent).set (.i (.i (.i (.i .h)))) (some (.t (fz (callT tG10 d30)) 6))
theorem tg30 : ΓFit Tryz.prog tG30 := tg10.nw (p := (.i (.i (.i (.i .h))))) (fd_fnOk tat30 tok30) tsnd30
/-- halberd/hello.Counts -/
theorem tat31 : Tryz.prog.funcs[31]? = some Tryz.f31 := by kernel_rfl
theorem tok31 : fdOk Tryz.prog XX tG30 Tryz.f31 d31 = true := by kernel_rfl
theorem tsnd31 : Sound Tryz.prog 31 (callT tG30 d31) := fd_sound mixed extAdd extSub tg30.ok tg30.fine tat31 tok31
noncomputable def tG31 : Tr Ent := (tG30 : Tr Ent).set (.o (.o (.o (.o (.o .h))))) (some (.t (callT tG30 d31) 3))
theorem tg31 : ΓFit Tryz.prog tG31 := tg30.tree (p := (.o (.o (.o (.o (.o .h)))))) (fd_fnOk tat31 tok31) tsnd31
/-- halberd/hello.First -/
theorem tat16 : Tryz.prog.funcs[16]? = some Tryz.f16 := by kernel_rfl
theorem tok16 : fdOk Tryz.prog XX tG31 Tryz.f16 d16 = true := by kernel_rfl
theorem tsnd16 : Sound Tryz.prog 16 (callT tG31 d16) := fd_sound mixed extAdd extSub tg31.ok tg31.fine tat16 tok16
noncomputable def tG16 : Tr Ent := (tG31 : Tr Ent).set (.i (.o (.o (.o .h)))) (some (.t (callT tG31 d16) 3))
theorem tg16 : ΓFit Tryz.prog tG16 := tg31.tree (p := (.i (.o (.o (.o .h))))) (fd_fnOk tat16 tok16) tsnd16
/-- halberd/halberdlaw0.Num -/
theorem tat17 : Tryz.prog.funcs[17]? = some Tryz.f17 := by kernel_rfl
theorem tok17 : fdOk Tryz.prog XX tG16 Tryz.f17 d17 = true := by kernel_rfl
theorem tsnd17 : Sound Tryz.prog 17 (callT tG16 d17) := fd_sound mixed extAdd extSub tg16.ok tg16.fine tat17 tok17
noncomputable def tG17 : Tr Ent := (tG16 : Tr Ent).set (.o (.i (.o (.o .h)))) (some (.f (pureF 100000 (callT tG16 d17)) 0))
theorem tg17 : ΓFit Tryz.prog tG17 := tg16.pure (p := (.o (.i (.o (.o .h))))) (fd_fnOk tat17 tok17) tsnd17
/-- halberd/halberdlaw24.awake -/
theorem tat9 : Tryz.prog.funcs[9]? = some Tryz.f9 := by kernel_rfl
theorem tok9 : fdOk Tryz.prog XX tG17 Tryz.f9 d9 = true := by kernel_rfl
theorem tsnd9 : Sound Tryz.prog 9 (callT tG17 d9) := fd_sound mixed extAdd extSub tg17.ok tg17.fine tat9 tok9
noncomputable def Fawake : Fc := fun args hp nx => match args with
  | [] => some (.bool true, hp, nx)
  | _ => none
theorem awake_run : (callT tG17 d9 [] .e .h).tell 100000 .e = some (.bool true, []) := by kernel_rfl
theorem awake_own : Sound Tryz.prog 9 (Ent.f Fawake 0).tc := by
  refine pure_sound tsnd9 fun args v hv => ?_
  unfold Fawake at hv
  split at hv
  · have hv : some (V.bool true) = some v := hv
    cases hv
    exact ⟨rfl, rfl, tell_sound awake_run trivial fun hp nx => ⟨hp, nx, rfl⟩⟩
  · cases hv
noncomputable def tG9 : Tr Ent := (tG17 : Tr Ent).set (.o (.i (.o .h))) (some (.f Fawake 0))
theorem tg9 : ΓFit Tryz.prog tG9 := tg17.put (p := (.o (.i (.o .h)))) (fd_fnOk tat9 tok9) (awake_own) trivial
/-- halberd/halberdlaw24.Client -/
theorem tat13 : Tryz.prog.funcs[13]? = some Tryz.f13 := by kernel_rfl
theorem tok13 : fdOk Tryz.prog XX tG9 Tryz.f13 d13 = true := by kernel_rfl
theorem tsnd13 : Sound Tryz.prog 13 (callT tG9 d13) := fd_sound mixed extAdd extSub tg9.ok tg9.fine tat13 tok13
noncomputable def tG13 : Tr Ent := (tG9 : Tr Ent).set (.o (.i (.i .h))) (some (.t (callT tG9 d13) 3))
theorem tg13 : ΓFit Tryz.prog tG13 := tg9.tree (p := (.o (.i (.i .h)))) (fd_fnOk tat13 tok13) tsnd13
/-- halberd/halberdlaw24.z -/
theorem tat15 : Tryz.prog.funcs[15]? = some Tryz.f15 := by kernel_rfl
theorem tok15 : fdOk Tryz.prog XX tG13 Tryz.f15 d15 = true := by kernel_rfl
theorem tsnd15 : Sound Tryz.prog 15 (callT tG13 d15) := fd_sound mixed extAdd extSub tg13.ok tg13.fine tat15 tok15
noncomputable def tG15 : Tr Ent := (tG13 : Tr Ent).set (.o (.o (.o (.o .h)))) (some (.f Fz 0))
theorem tg15 : ΓFit Tryz.prog tG15 := tg13.put (p := (.o (.o (.o (.o .h))))) (fd_fnOk tat15 tok15) (z_own tsnd15) trivial
/-- halberd/halberdlaw24.Server -/
theorem tat14 : Tryz.prog.funcs[14]? = some Tryz.f14 := by kernel_rfl
theorem tok14 : fdOk Tryz.prog XX tG15 Tryz.f14 d14 = true := by kernel_rfl
theorem tsnd14 : Sound Tryz.prog 14 (callT tG15 d14) := fd_sound mixed extAdd extSub tg15.ok tg15.fine tat14 tok14
noncomputable def tG14 : Tr Ent := (tG15 : Tr Ent).set (.i (.i (.i .h))) (some (.t (callT tG15 d14) 3))
theorem tg14 : ΓFit Tryz.prog tG14 := tg15.tree (p := (.i (.i (.i .h)))) (fd_fnOk tat14 tok14) tsnd14
/-- halberd/halberdlaw24.HelloForms -/
theorem tat4 : Tryz.prog.funcs[4]? = some Tryz.f4 := by kernel_rfl
theorem tok4 : fdOk Tryz.prog XX tG14 Tryz.f4 d4 = true := by kernel_rfl
theorem tsnd4 : Sound Tryz.prog 4 (callT tG14 d4) := fd_sound mixed extAdd extSub tg14.ok tg14.fine tat4 tok4
noncomputable def tG4 : Tr Ent := (tG14 : Tr Ent).set (.i (.o .h)) (some (.t (callT tG14 d4) 3))
theorem tg4 : ΓFit Tryz.prog tG4 := tg14.tree (p := (.i (.o .h))) (fd_fnOk tat4 tok4) tsnd4
/-- halberd/halberdlaw24.HelloOrder -/
theorem tat6 : Tryz.prog.funcs[6]? = some Tryz.f6 := by kernel_rfl
theorem tok6 : fdOk Tryz.prog XX tG4 Tryz.f6 d6 = true := by kernel_rfl
theorem tsnd6 : Sound Tryz.prog 6 (callT tG4 d6) := fd_sound mixed extAdd extSub tg4.ok tg4.fine tat6 tok6
noncomputable def tG6 : Tr Ent := (tG4 : Tr Ent).set (.i (.i .h)) (some (.t (callT tG4 d6) 3))
theorem tg6 : ΓFit Tryz.prog tG6 := tg4.tree (p := (.i (.i .h))) (fd_fnOk tat6 tok6) tsnd6
/-- halberd/halberdlaw24.HelloRetries -/
theorem tat7 : Tryz.prog.funcs[7]? = some Tryz.f7 := by kernel_rfl
theorem tok7 : fdOk Tryz.prog XX tG6 Tryz.f7 d7 = true := by kernel_rfl
theorem tsnd7 : Sound Tryz.prog 7 (callT tG6 d7) := fd_sound mixed extAdd extSub tg6.ok tg6.fine tat7 tok7
noncomputable def tG7 : Tr Ent := (tG6 : Tr Ent).set (.o (.o (.o .h))) (some (.t (callT tG6 d7) 3))
theorem tg7 : ΓFit Tryz.prog tG7 := tg6.tree (p := (.o (.o (.o .h)))) (fd_fnOk tat7 tok7) tsnd7
end Go.Proofs.YtmgbeipdeeegoaaGreatDoor.S

import Derived.Test.YtmgbeipdeeegoaaGreatDoorHb
namespace Go.Proofs.YtmgbeipdeeegoaaGreatDoor.S
open Go.AE
set_option maxRecDepth 1000000
-- order: 42 25 26 27 54 36 24 60 72 59 44 45 28 48 47 61 46 29 11 10 30 31 16 17 9 13 15 18 19 5
/-- halberd/aead.Sizes -/
theorem hat42 : Tryz.prog.funcs[42]? = some Tryz.f42 := by kernel_rfl
theorem hok42 : fdOk Tryz.prog XX .e Tryz.f42 d42 = true := by kernel_rfl
theorem hsnd42 : Sound Tryz.prog 42 (callT .e d42) := fd_sound mixed extAdd extSub ΓOk.e ΓFine.e hat42 hok42
noncomputable def hG42 : Tr Ent := (.e : Tr Ent).set (.i (.i (.o (.i (.o .h))))) (some (.f (pureF 100000 (callT .e d42)) 0))
theorem hg42 : ΓFit Tryz.prog hG42 := (ΓFit.e : ΓFit Tryz.prog .e).pure (p := (.i (.i (.o (.i (.o .h)))))) (fd_fnOk hat42 hok42) hsnd42
/-- halberd/hello.suite -/
theorem hat25 : Tryz.prog.funcs[25]? = some Tryz.f25 := by kernel_rfl
theorem hok25 : fdOk Tryz.prog XX hG42 Tryz.f25 d25 = true := by kernel_rfl
theorem hsnd25 : Sound Tryz.prog 25 (callT hG42 d25) := fd_sound mixed extAdd extSub hg42.ok hg42.fine hat25 hok25
noncomputable def hG25 : Tr Ent := (hG42 : Tr Ent).set (.o (.i (.o (.i .h)))) (some (.f (pureF 100000 (callT hG42 d25)) 0))
theorem hg25 : ΓFit Tryz.prog hG25 := hg42.pure (p := (.o (.i (.o (.i .h))))) (fd_fnOk hat25 hok25) hsnd25
/-- halberd/hello.group -/
theorem hat26 : Tryz.prog.funcs[26]? = some Tryz.f26 := by kernel_rfl
theorem hok26 : fdOk Tryz.prog XX hG25 Tryz.f26 d26 = true := by kernel_rfl
theorem hsnd26 : Sound Tryz.prog 26 (callT hG25 d26) := fd_sound mixed extAdd extSub hg25.ok hg25.fine hat26 hok26
noncomputable def hG26 : Tr Ent := (hG25 : Tr Ent).set (.i (.i (.o (.i .h)))) (some (.f (pureF 100000 (callT hG25 d26)) 0))
theorem hg26 : ΓFit Tryz.prog hG26 := hg25.pure (p := (.i (.i (.o (.i .h))))) (fd_fnOk hat26 hok26) hsnd26
/-- halberd/hello.in -/
theorem hat27 : Tryz.prog.funcs[27]? = some Tryz.f27 := by kernel_rfl
theorem hok27 : fdOk Tryz.prog XX hG26 Tryz.f27 d27 = true := by kernel_rfl
theorem hsnd27 : Sound Tryz.prog 27 (callT hG26 d27) := fd_sound mixed extAdd extSub hg26.ok hg26.fine hat27 hok27
noncomputable def hF27 : Fc := fun args hp nx => match args with
  | [.int .i64 x, .int .i64 a, .int .i64 b] => some (.bool (decide (a ≤ x) && decide (x ≤ b)), hp, nx)
  | _ => none
theorem hin1 (x a b : Int) : (callT hG26 d27 [.int .i64 x, .int .i64 a, .int .i64 b] .e .h).tell 10 (.n 2 .z (.n 0 .z (.n 1 .z (.n 0 .z (.n 0 .t (.n 0 .z (.n 1 .z (.n 2 .z (.n 0 .z (.n 0 .z (.n 0 .z .e))))))))))) = some (.bool (decide (x ≤ b)), [decide (a ≤ x) = true]) := by kernel_rfl
theorem hin2 (x a b : Int) : (callT hG26 d27 [.int .i64 x, .int .i64 a, .int .i64 b] .e .h).tell 10 (.n 2 .z (.n 0 .z (.n 1 .z (.n 0 .z (.n 0 .f .e))))) = some (.bool false, [decide (a ≤ x) = false]) := by kernel_rfl
theorem hown27 : Sound Tryz.prog 27 (Ent.f hF27 0).tc := by
  refine pure_sound hsnd27 fun args v h => ?_
  unfold hF27 at h
  split at h
  · rename_i x a b
    have h : some (V.bool (decide (a ≤ x) && decide (x ≤ b))) = some v := h
    cases h
    refine ⟨rfl, rfl, ?_⟩
    by_cases e : a ≤ x
    · exact tell_sound (hin1 x a b) ⟨decide_eq_true e, trivial⟩ fun hp nx => ⟨hp, nx, by simp [e]⟩
    · exact tell_sound (hin2 x a b) ⟨decide_eq_false e, trivial⟩ fun hp nx => ⟨hp, nx, by simp [e]⟩
  · cases h
noncomputable def hG27 : Tr Ent := (hG26 : Tr Ent).set (.o (.o (.i (.i .h)))) (some (.f hF27 0))
theorem hg27 : ΓFit Tryz.prog hG27 := hg26.put (p := (.o (.o (.i (.i .h))))) (fd_fnOk hat27 hok27) (hown27) trivial
/-- slices.Index[[]int,int] -/
theorem hat54 : Tryz.prog.funcs[54]? = some Tryz.f54 := by kernel_rfl
theorem hok54 : fdOk Tryz.prog XX hG27 Tryz.f54 d54 = true := by kernel_rfl
theorem hsnd54 : Sound Tryz.prog 54 (callT hG27 d54) := fd_sound mixed extAdd extSub hg27.ok hg27.fine hat54 hok54
noncomputable def hG54 : Tr Ent := (hG27 : Tr Ent).set (.i (.i (.i (.o (.i .h))))) (some (.t (callT hG27 d54) 5))
theorem hrd54 : rdC hG27 d54.code = true := by kernel_rfl
theorem hg54 : ΓFit Tryz.prog hG54 := hg27.rd (p := (.i (.i (.i (.o (.i .h)))))) (fd_fnOk hat54 hok54) hsnd54 hrd54
/-- slices.Contains[[]int,int] -/
theorem hat36 : Tryz.prog.funcs[36]? = some Tryz.f36 := by kernel_rfl
theorem hok36 : fdOk Tryz.prog XX hG54 Tryz.f36 d36 = true := by kernel_rfl
theorem hsnd36 : Sound Tryz.prog 36 (callT hG54 d36) := fd_sound mixed extAdd extSub hg54.ok hg54.fine hat36 hok36
noncomputable def hG36 : Tr Ent := (hG54 : Tr Ent).set (.i (.o (.i (.o (.o .h))))) (some (.t (callT hG54 d36) 5))
theorem hrd36 : rdC hG54 d36.code = true := by kernel_rfl
theorem hg36 : ΓFit Tryz.prog hG36 := hg54.rd (p := (.i (.o (.i (.o (.o .h)))))) (fd_fnOk hat36 hok36) hsnd36 hrd36
/-- halberd/hello.each -/
theorem hat24 : Tryz.prog.funcs[24]? = some Tryz.f24 := by kernel_rfl
theorem hok24 : fdOk Tryz.prog XX hG36 Tryz.f24 d24 = true := by kernel_rfl
theorem hsnd24 : Sound Tryz.prog 24 (callT hG36 d24) := fd_sound mixed extAdd extSub hg36.ok hg36.fine hat24 hok24
noncomputable def hG24 : Tr Ent := (hG36 : Tr Ent).set (.i (.o (.o (.i .h)))) (some (.t (callT hG36 d24) 3))
theorem hg24 : ΓFit Tryz.prog hG24 := hg36.tree (p := (.i (.o (.o (.i .h))))) (fd_fnOk hat24 hok24) hsnd24
/-- halberd/hello.certs$1 -/
theorem hat60 : Tryz.prog.funcs[60]? = some Tryz.f60 := by kernel_rfl
theorem hok60 : fdOk Tryz.prog XX hG24 Tryz.f60 d60 = true := by kernel_rfl
theorem hsnd60 : Sound Tryz.prog 60 (callT hG24 d60) := fd_sound mixed extAdd extSub hg24.ok hg24.fine hat60 hok60
noncomputable def hG60 : Tr Ent := (hG24 : Tr Ent).set (.i (.o (.i (.i (.i .h))))) (some (.t (callT hG24 d60) 3))
theorem hg60 : ΓFit Tryz.prog hG60 := hg24.tree (p := (.i (.o (.i (.i (.i .h)))))) (fd_fnOk hat60 hok60) hsnd60
/-- slices.IndexFunc[[]string,string] -/
theorem hat72 : Tryz.prog.funcs[72]? = some Tryz.f72 := by kernel_rfl
theorem hok72 : fdOk Tryz.prog XX hG60 Tryz.f72 d72 = true := by kernel_rfl
theorem hsnd72 : Sound Tryz.prog 72 (callT hG60 d72) := fd_sound mixed extAdd extSub hg60.ok hg60.fine hat72 hok72
noncomputable def hG72 : Tr Ent := (hG60 : Tr Ent).set (.i (.o (.o (.i (.o (.o .h)))))) (some (.t (callT hG60 d72) 3))
theorem hg72 : ΓFit Tryz.prog hG72 := hg60.tree (p := (.i (.o (.o (.i (.o (.o .h))))))) (fd_fnOk hat72 hok72) hsnd72
/-- slices.ContainsFunc[[]string,string] -/
theorem hat59 : Tryz.prog.funcs[59]? = some Tryz.f59 := by kernel_rfl
theorem hok59 : fdOk Tryz.prog XX hG72 Tryz.f59 d59 = true := by kernel_rfl
theorem hsnd59 : Sound Tryz.prog 59 (callT hG72 d59) := fd_sound mixed extAdd extSub hg72.ok hg72.fine hat59 hok59
noncomputable def hG59 : Tr Ent := (hG72 : Tr Ent).set (.o (.o (.i (.i (.i .h))))) (some (.t (callT hG72 d59) 3))
theorem hg59 : ΓFit Tryz.prog hG59 := hg72.tree (p := (.o (.o (.i (.i (.i .h)))))) (fd_fnOk hat59 hok59) hsnd59
/-- halberd/hello.certs -/
theorem hat44 : Tryz.prog.funcs[44]? = some Tryz.f44 := by kernel_rfl
theorem hok44 : fdOk Tryz.prog XX hG59 Tryz.f44 d44 = true := by kernel_rfl
theorem hsnd44 : Sound Tryz.prog 44 (callT hG59 d44) := fd_sound mixed extAdd extSub hg59.ok hg59.fine hat44 hok44
noncomputable def hG44 : Tr Ent := (hG59 : Tr Ent).set (.i (.o (.i (.i (.o .h))))) (some (.t (callT hG59 d44) 3))
theorem hg44 : ΓFit Tryz.prog hG44 := hg59.tree (p := (.i (.o (.i (.i (.o .h)))))) (fd_fnOk hat44 hok44) hsnd44
/-- halberd/hello.fits -/
theorem hat45 : Tryz.prog.funcs[45]? = some Tryz.f45 := by kernel_rfl
theorem hok45 : fdOk Tryz.prog XX hG44 Tryz.f45 d45 = true := by kernel_rfl
theorem hsnd45 : Sound Tryz.prog 45 (callT hG44 d45) := fd_sound mixed extAdd extSub hg44.ok hg44.fine hat45 hok45
noncomputable def hG45 : Tr Ent := (hG44 : Tr Ent).set (.o (.i (.i (.i (.o .h))))) (some (.t (callT hG44 d45) 3))
theorem hg45 : ΓFit Tryz.prog hG45 := hg44.tree (p := (.o (.i (.i (.i (.o .h)))))) (fd_fnOk hat45 hok45) hsnd45
/-- halberd/hello.server -/
theorem hat28 : Tryz.prog.funcs[28]? = some Tryz.f28 := by kernel_rfl
theorem hok28 : fdOk Tryz.prog XX hG45 Tryz.f28 d28 = true := by kernel_rfl
theorem hsnd28 : Sound Tryz.prog 28 (callT hG45 d28) := fd_sound mixed extAdd extSub hg45.ok hg45.fine hat28 hok28
noncomputable def hG28 : Tr Ent := (hG45 : Tr Ent).set (.i (.o (.i (.i .h)))) (some (.t (callT hG45 d28) 3))
theorem hg28 : ΓFit Tryz.prog hG28 := hg45.tree (p := (.i (.o (.i (.i .h))))) (fd_fnOk hat28 hok28) hsnd28
/-- halberd/hello.psk -/
theorem hat48 : Tryz.prog.funcs[48]? = some Tryz.f48 := by kernel_rfl
theorem hok48 : fdOk Tryz.prog XX hG28 Tryz.f48 d48 = true := by kernel_rfl
theorem hsnd48 : Sound Tryz.prog 48 (callT hG28 d48) := fd_sound mixed extAdd extSub hg28.ok hg28.fine hat48 hok48
noncomputable def hG48 : Tr Ent := (hG28 : Tr Ent).set (.i (.o (.o (.o (.i .h))))) (some (.t (callT hG28 d48) 3))
theorem hg48 : ΓFit Tryz.prog hG48 := hg28.tree (p := (.i (.o (.o (.o (.i .h)))))) (fd_fnOk hat48 hok48) hsnd48
/-- halberd/hello.client$1 -/
theorem hat47 : Tryz.prog.funcs[47]? = some Tryz.f47 := by kernel_rfl
theorem hok47 : fdOk Tryz.prog XX hG48 Tryz.f47 d47 = true := by kernel_rfl
theorem hsnd47 : Sound Tryz.prog 47 (callT hG48 d47) := fd_sound mixed extAdd extSub hg48.ok hg48.fine hat47 hok47
noncomputable def hG47 : Tr Ent := (hG48 : Tr Ent).set (.o (.o (.o (.o (.i .h))))) (some (.t (callT hG48 d47) 3))
theorem hg47 : ΓFit Tryz.prog hG47 := hg48.tree (p := (.o (.o (.o (.o (.i .h)))))) (fd_fnOk hat47 hok47) hsnd47
/-- slices.IndexFunc[[]halberd/api.Psk,halberd/api.Psk] -/
theorem hat61 : Tryz.prog.funcs[61]? = some Tryz.f61 := by kernel_rfl
theorem hok61 : fdOk Tryz.prog XX hG47 Tryz.f61 d61 = true := by kernel_rfl
theorem hsnd61 : Sound Tryz.prog 61 (callT hG47 d61) := fd_sound mixed extAdd extSub hg47.ok hg47.fine hat61 hok61
noncomputable def hG61 : Tr Ent := (hG47 : Tr Ent).set (.o (.i (.i (.i (.i .h))))) (some (.t (callT hG47 d61) 3))
theorem hg61 : ΓFit Tryz.prog hG61 := hg47.tree (p := (.o (.i (.i (.i (.i .h)))))) (fd_fnOk hat61 hok61) hsnd61
/-- slices.ContainsFunc[[]halberd/api.Psk,halberd/api.Psk] -/
theorem hat46 : Tryz.prog.funcs[46]? = some Tryz.f46 := by kernel_rfl
theorem hok46 : fdOk Tryz.prog XX hG61 Tryz.f46 d46 = true := by kernel_rfl
theorem hsnd46 : Sound Tryz.prog 46 (callT hG61 d46) := fd_sound mixed extAdd extSub hg61.ok hg61.fine hat46 hok46
noncomputable def hG46 : Tr Ent := (hG61 : Tr Ent).set (.i (.i (.i (.i (.o .h))))) (some (.t (callT hG61 d46) 3))
theorem hg46 : ΓFit Tryz.prog hG46 := hg61.tree (p := (.i (.i (.i (.i (.o .h)))))) (fd_fnOk hat46 hok46) hsnd46
/-- halberd/hello.client -/
theorem hat29 : Tryz.prog.funcs[29]? = some Tryz.f29 := by kernel_rfl
theorem hok29 : fdOk Tryz.prog XX hG46 Tryz.f29 d29 = true := by kernel_rfl
theorem hsnd29 : Sound Tryz.prog 29 (callT hG46 d29) := fd_sound mixed extAdd extSub hg46.ok hg46.fine hat29 hok29
noncomputable def hG29 : Tr Ent := (hG46 : Tr Ent).set (.o (.i (.i (.i .h)))) (some (.t (callT hG46 d29) 3))
theorem hg29 : ΓFit Tryz.prog hG29 := hg46.tree (p := (.o (.i (.i (.i .h))))) (fd_fnOk hat29 hok29) hsnd29
/-- halberd/hello.May -/
theorem hat11 : Tryz.prog.funcs[11]? = some Tryz.f11 := by kernel_rfl
theorem hok11 : fdOk Tryz.prog XX hG29 Tryz.f11 d11 = true := by kernel_rfl
theorem hsnd11 : Sound Tryz.prog 11 (callT hG29 d11) := fd_sound mixed extAdd extSub hg29.ok hg29.fine hat11 hok11
noncomputable def hG11 : Tr Ent := (hG29 : Tr Ent).set (.o (.o (.i .h))) (some (.t (callT hG29 d11) 3))
theorem hg11 : ΓFit Tryz.prog hG11 := hg29.tree (p := (.o (.o (.i .h)))) (fd_fnOk hat11 hok11) hsnd11
/-- halberd/hello.Choose -/
theorem hat10 : Tryz.prog.funcs[10]? = some Tryz.f10 := by kernel_rfl
theorem hok10 : fdOk Tryz.prog XX hG11 Tryz.f10 d10 = true := by kernel_rfl
theorem hsnd10 : Sound Tryz.prog 10 (callT hG11 d10) := fd_sound mixed extAdd extSub hg11.ok hg11.fine hat10 hok10
noncomputable def hG10 : Tr Ent := (hG11 : Tr Ent).set (.i (.i (.o .h))) (some (.t (callT hG11 d10) 3))
theorem hg10 : ΓFit Tryz.prog hG10 := hg11.tree (p := (.i (.i (.o .h)))) (fd_fnOk hat10 hok10) hsnd10
/-- slices.Clone[[]int,int] -/
theorem hat30 : Tryz.prog.funcs[30]? = some Tryz.f30 := by kernel_rfl
theorem hok30 : fdOk Tryz.prog XX hG10 Tryz.f30 d30 = true := by kernel_rfl
theorem hsnd30 : Sound Tryz.prog 30 (callT hG10 d30) := fd_sound mixed extAdd extSub hg10.ok hg10.fine hat30 hok30
noncomputable def hG30 : Tr Ent := (hG10 : Tr Ent).set (.i (.i (.i (.i .h)))) (some (.t (fz (callT hG10 d30)) 6))
theorem hg30 : ΓFit Tryz.prog hG30 := hg10.nw (p := (.i (.i (.i (.i .h))))) (fd_fnOk hat30 hok30) hsnd30
/-- halberd/hello.Counts -/
theorem hat31 : Tryz.prog.funcs[31]? = some Tryz.f31 := by kernel_rfl
theorem hok31 : fdOk Tryz.prog XX hG30 Tryz.f31 d31 = true := by kernel_rfl
theorem hsnd31 : Sound Tryz.prog 31 (callT hG30 d31) := fd_sound mixed extAdd extSub hg30.ok hg30.fine hat31 hok31
noncomputable def hG31 : Tr Ent := (hG30 : Tr Ent).set (.o (.o (.o (.o (.o .h))))) (some (.t (callT hG30 d31) 3))
theorem hg31 : ΓFit Tryz.prog hG31 := hg30.tree (p := (.o (.o (.o (.o (.o .h)))))) (fd_fnOk hat31 hok31) hsnd31
/-- halberd/hello.First -/
theorem hat16 : Tryz.prog.funcs[16]? = some Tryz.f16 := by kernel_rfl
theorem hok16 : fdOk Tryz.prog XX hG31 Tryz.f16 d16 = true := by kernel_rfl
theorem hsnd16 : Sound Tryz.prog 16 (callT hG31 d16) := fd_sound mixed extAdd extSub hg31.ok hg31.fine hat16 hok16
noncomputable def hG16 : Tr Ent := (hG31 : Tr Ent).set (.i (.o (.o (.o .h)))) (some (.t (callT hG31 d16) 3))
theorem hg16 : ΓFit Tryz.prog hG16 := hg31.tree (p := (.i (.o (.o (.o .h))))) (fd_fnOk hat16 hok16) hsnd16
/-- halberd/halberdlaw0.Num -/
theorem hat17 : Tryz.prog.funcs[17]? = some Tryz.f17 := by kernel_rfl
theorem hok17 : fdOk Tryz.prog XX hG16 Tryz.f17 d17 = true := by kernel_rfl
theorem hsnd17 : Sound Tryz.prog 17 (callT hG16 d17) := fd_sound mixed extAdd extSub hg16.ok hg16.fine hat17 hok17
noncomputable def hG17 : Tr Ent := (hG16 : Tr Ent).set (.o (.i (.o (.o .h)))) (some (.f (pureF 100000 (callT hG16 d17)) 0))
theorem hg17 : ΓFit Tryz.prog hG17 := hg16.pure (p := (.o (.i (.o (.o .h))))) (fd_fnOk hat17 hok17) hsnd17
/-- halberd/halberdlaw24.awake -/
theorem hat9 : Tryz.prog.funcs[9]? = some Tryz.f9 := by kernel_rfl
theorem hok9 : fdOk Tryz.prog XX hG17 Tryz.f9 d9 = true := by kernel_rfl
theorem hsnd9 : Sound Tryz.prog 9 (callT hG17 d9) := fd_sound mixed extAdd extSub hg17.ok hg17.fine hat9 hok9
noncomputable def hG9 : Tr Ent := (hG17 : Tr Ent).set (.o (.i (.o .h))) (some (.f (pureF 100000 (callT hG17 d9)) 0))
theorem hg9 : ΓFit Tryz.prog hG9 := hg17.pure (p := (.o (.i (.o .h)))) (fd_fnOk hat9 hok9) hsnd9
/-- halberd/halberdlaw24.Client -/
theorem hat13 : Tryz.prog.funcs[13]? = some Tryz.f13 := by kernel_rfl
theorem hok13 : fdOk Tryz.prog XX hG9 Tryz.f13 d13 = true := by kernel_rfl
theorem hsnd13 : Sound Tryz.prog 13 (callT hG9 d13) := fd_sound mixed extAdd extSub hg9.ok hg9.fine hat13 hok13
noncomputable def hG13 : Tr Ent := (hG9 : Tr Ent).set (.o (.i (.i .h))) (some (.t (callT hG9 d13) 3))
theorem hg13 : ΓFit Tryz.prog hG13 := hg9.tree (p := (.o (.i (.i .h)))) (fd_fnOk hat13 hok13) hsnd13
/-- halberd/halberdlaw24.z -/
theorem hat15 : Tryz.prog.funcs[15]? = some Tryz.f15 := by kernel_rfl
theorem hok15 : fdOk Tryz.prog XX hG13 Tryz.f15 d15 = true := by kernel_rfl
theorem hsnd15 : Sound Tryz.prog 15 (callT hG13 d15) := fd_sound mixed extAdd extSub hg13.ok hg13.fine hat15 hok15
noncomputable def hG15 : Tr Ent := (hG13 : Tr Ent).set (.o (.o (.o (.o .h)))) (some (.f (pureF 100000 (callT hG13 d15)) 0))
theorem hg15 : ΓFit Tryz.prog hG15 := hg13.pure (p := (.o (.o (.o (.o .h))))) (fd_fnOk hat15 hok15) hsnd15
/-- halberd/halberdlaw0.SameInts -/
theorem hat18 : Tryz.prog.funcs[18]? = some Tryz.f18 := by kernel_rfl
theorem hok18 : fdOk Tryz.prog XX hG15 Tryz.f18 d18 = true := by kernel_rfl
theorem hsnd18 : Sound Tryz.prog 18 (callT hG15 d18) := fd_sound mixed extAdd extSub hg15.ok hg15.fine hat18 hok18
noncomputable def hG18 : Tr Ent := (hG15 : Tr Ent).set (.i (.i (.o (.o .h)))) (some (.t (callT hG15 d18) 5))
theorem hrd18 : rdC hG15 d18.code = true := by kernel_rfl
theorem hg18 : ΓFit Tryz.prog hG18 := hg15.rd (p := (.i (.i (.o (.o .h))))) (fd_fnOk hat18 hok18) hsnd18 hrd18
/-- halberd/halberdlaw0.SameTexts -/
theorem hat19 : Tryz.prog.funcs[19]? = some Tryz.f19 := by kernel_rfl
theorem hok19 : fdOk Tryz.prog XX hG18 Tryz.f19 d19 = true := by kernel_rfl
theorem hsnd19 : Sound Tryz.prog 19 (callT hG18 d19) := fd_sound mixed extAdd extSub hg18.ok hg18.fine hat19 hok19
noncomputable def hG19 : Tr Ent := (hG18 : Tr Ent).set (.o (.o (.i (.o .h)))) (some (.t (callT hG18 d19) 5))
theorem hrd19 : rdC hG18 d19.code = true := by kernel_rfl
theorem hg19 : ΓFit Tryz.prog hG19 := hg18.rd (p := (.o (.o (.i (.o .h))))) (fd_fnOk hat19 hok19) hsnd19 hrd19
/-- halberd/halberdlaw24.HelloAges -/
theorem hat5 : Tryz.prog.funcs[5]? = some Tryz.f5 := by kernel_rfl
theorem hok5 : fdOk Tryz.prog XX hG19 Tryz.f5 d5 = true := by kernel_rfl
theorem hsnd5 : Sound Tryz.prog 5 (callT hG19 d5) := fd_sound mixed extAdd extSub hg19.ok hg19.fine hat5 hok5
noncomputable def hG5 : Tr Ent := (hG19 : Tr Ent).set (.o (.i .h)) (some (.t (callT hG19 d5) 3))
theorem hg5 : ΓFit Tryz.prog hG5 := hg19.tree (p := (.o (.i .h))) (fd_fnOk hat5 hok5) hsnd5
end Go.Proofs.YtmgbeipdeeegoaaGreatDoor.S

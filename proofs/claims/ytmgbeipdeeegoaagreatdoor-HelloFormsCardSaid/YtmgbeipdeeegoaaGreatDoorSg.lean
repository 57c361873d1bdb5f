import Derived.Test.YtmgbeipdeeegoaaGreatDoorNum1
import Derived.Test.YtmgbeipdeeegoaaGreatDoorCd3
namespace Go.Proofs.YtmgbeipdeeegoaaGreatDoor.S
open Go.AE
set_option maxRecDepth 1000000
-- order: 68 81 82 69 56 70 71 57 58 43 42 25 26 27 54 36 24 60 72 59 44 45 28 48 47 61 46 29 11 35 21 38 40 39 37 22 55 41 23 10
/-- halberd/num.modulus -/
theorem sat68 : Tryz.prog.funcs[68]? = some Tryz.f68 := by kernel_rfl
theorem sok68 : fdOk Tryz.prog XX .e Tryz.f68 d68 = true := by kernel_rfl
theorem ssnd68 : Sound Tryz.prog 68 (callT .e d68) := fd_sound mixed extAdd extSub ΓOk.e ΓFine.e sat68 sok68
noncomputable def sG68 : Tr Ent := (.e : Tr Ent).set (.i (.o (.i (.o (.o (.o .h)))))) (some (.f (pureF 100000 (callT .e d68)) 0))
theorem sg68 : ΓFit Tryz.prog sG68 := (ΓFit.e : ΓFit Tryz.prog .e).pure (p := (.i (.o (.i (.o (.o (.o .h))))))) (fd_fnOk sat68 sok68) ssnd68
/-- halberd/num.add -/
theorem sat81 : Tryz.prog.funcs[81]? = some Tryz.f81 := by kernel_rfl
theorem sok81 : fdOk Tryz.prog XX sG68 Tryz.f81 d81 = true := by kernel_rfl
theorem ssnd81 : Sound Tryz.prog 81 (callT sG68 d81) := fd_sound mixed extAdd extSub sg68.ok sg68.fine sat81 sok81
noncomputable def sG81 : Tr Ent := (sG68 : Tr Ent).set (.o (.i (.o (.o (.i (.o .h)))))) (some (.f Fadd 0))
theorem sg81 : ΓFit Tryz.prog sG81 := sg68.put (p := (.o (.i (.o (.o (.i (.o .h))))))) (fd_fnOk sat81 sok81) (add_own ssnd81) trivial
/-- halberd/num.sub -/
theorem sat82 : Tryz.prog.funcs[82]? = some Tryz.f82 := by kernel_rfl
theorem sok82 : fdOk Tryz.prog XX sG81 Tryz.f82 d82 = true := by kernel_rfl
theorem ssnd82 : Sound Tryz.prog 82 (callT sG81 d82) := fd_sound mixed extAdd extSub sg81.ok sg81.fine sat82 sok82
noncomputable def sG82 : Tr Ent := (sG81 : Tr Ent).set (.i (.i (.o (.o (.i (.o .h)))))) (some (.f Fsub 0))
theorem sg82 : ΓFit Tryz.prog sG82 := sg81.put (p := (.i (.i (.o (.o (.i (.o .h))))))) (fd_fnOk sat82 sok82) (sub_own ssnd82) trivial
/-- (*halberd/num.Field).Add -/
theorem sat69 : Tryz.prog.funcs[69]? = some Tryz.f69 := by kernel_rfl
theorem sok69 : fdOk Tryz.prog XX sG82 Tryz.f69 d69 = true := by kernel_rfl
theorem ssnd69 : Sound Tryz.prog 69 (callT sG82 d69) := fd_sound mixed extAdd extSub sg82.ok sg82.fine sat69 sok69
noncomputable def sG69 : Tr Ent := (sG82 : Tr Ent).set (.o (.i (.i (.o (.o (.o .h)))))) (some (.t (callT sG82 d69) 3))
theorem sg69 : ΓFit Tryz.prog sG69 := sg82.tree (p := (.o (.i (.i (.o (.o (.o .h))))))) (fd_fnOk sat69 sok69) ssnd69
/-- halberd/num.New -/
theorem sat56 : Tryz.prog.funcs[56]? = some Tryz.f56 := by kernel_rfl
theorem sok56 : fdOk Tryz.prog XX sG69 Tryz.f56 d56 = true := by kernel_rfl
theorem ssnd56 : Sound Tryz.prog 56 (callT sG69 d56) := fd_sound mixed extAdd extSub sg69.ok sg69.fine sat56 sok56
noncomputable def sG56 : Tr Ent := (sG69 : Tr Ent).set (.i (.o (.o (.i (.i .h))))) (some (.t (callT sG69 d56) 3))
theorem sg56 : ΓFit Tryz.prog sG56 := sg69.tree (p := (.i (.o (.o (.i (.i .h)))))) (fd_fnOk sat56 sok56) ssnd56
/-- halberd/num.Load -/
theorem sat70 : Tryz.prog.funcs[70]? = some Tryz.f70 := by kernel_rfl
theorem sok70 : fdOk Tryz.prog XX sG56 Tryz.f70 d70 = true := by kernel_rfl
theorem ssnd70 : Sound Tryz.prog 70 (callT sG56 d70) := fd_sound mixed extAdd extSub sg56.ok sg56.fine sat70 sok70
noncomputable def sG70 : Tr Ent := (sG56 : Tr Ent).set (.i (.i (.i (.o (.o (.o .h)))))) (some (.f (pureF 100000 (callT sG56 d70)) 0))
theorem sg70 : ΓFit Tryz.prog sG70 := sg56.pure (p := (.i (.i (.i (.o (.o (.o .h))))))) (fd_fnOk sat70 sok70) ssnd70
/-- (halberd/num.Nat).Less -/
theorem sat71 : Tryz.prog.funcs[71]? = some Tryz.f71 := by kernel_rfl
theorem sok71 : fdOk Tryz.prog XX sG70 Tryz.f71 d71 = true := by kernel_rfl
theorem ssnd71 : Sound Tryz.prog 71 (callT sG70 d71) := fd_sound mixed extAdd extSub sg70.ok sg70.fine sat71 sok71
noncomputable def sG71 : Tr Ent := (sG70 : Tr Ent).set (.o (.o (.o (.i (.o (.o .h)))))) (some (.f (pureF 100000 (callT sG70 d71)) 0))
theorem sg71 : ΓFit Tryz.prog sG71 := sg70.pure (p := (.o (.o (.o (.i (.o (.o .h))))))) (fd_fnOk sat71 sok71) ssnd71
/-- (*halberd/num.Field).Read -/
theorem sat57 : Tryz.prog.funcs[57]? = some Tryz.f57 := by kernel_rfl
theorem sok57 : fdOk Tryz.prog XX sG71 Tryz.f57 d57 = true := by kernel_rfl
theorem ssnd57 : Sound Tryz.prog 57 (callT sG71 d57) := fd_sound mixed extAdd extSub sg71.ok sg71.fine sat57 sok57
noncomputable def sG57 : Tr Ent := (sG71 : Tr Ent).set (.o (.i (.o (.i (.i .h))))) (some (.t (callT sG71 d57) 3))
theorem sg57 : ΓFit Tryz.prog sG57 := sg71.tree (p := (.o (.i (.o (.i (.i .h)))))) (fd_fnOk sat57 sok57) ssnd57
/-- (halberd/num.Nat).Zero -/
theorem sat58 : Tryz.prog.funcs[58]? = some Tryz.f58 := by kernel_rfl
theorem sok58 : fdOk Tryz.prog XX sG57 Tryz.f58 d58 = true := by kernel_rfl
theorem ssnd58 : Sound Tryz.prog 58 (callT sG57 d58) := fd_sound mixed extAdd extSub sg57.ok sg57.fine sat58 sok58
noncomputable def sG58 : Tr Ent := (sG57 : Tr Ent).set (.i (.i (.o (.i (.i .h))))) (some (.f (pureF 100000 (callT sG57 d58)) 0))
theorem sg58 : ΓFit Tryz.prog sG58 := sg57.pure (p := (.i (.i (.o (.i (.i .h)))))) (fd_fnOk sat58 sok58) ssnd58
/-- halberd/pcurve.Scalar -/
theorem sat43 : Tryz.prog.funcs[43]? = some Tryz.f43 := by kernel_rfl
theorem sok43 : fdOk Tryz.prog XX sG58 Tryz.f43 d43 = true := by kernel_rfl
theorem ssnd43 : Sound Tryz.prog 43 (callT sG58 d43) := fd_sound mixed extAdd extSub sg58.ok sg58.fine sat43 sok43
noncomputable def sG43 : Tr Ent := (sG58 : Tr Ent).set (.o (.o (.i (.i (.o .h))))) (some (.t (callT sG58 d43) 3))
theorem sg43 : ΓFit Tryz.prog sG43 := sg58.tree (p := (.o (.o (.i (.i (.o .h)))))) (fd_fnOk sat43 sok43) ssnd43
/-- halberd/aead.Sizes -/
theorem sat42 : Tryz.prog.funcs[42]? = some Tryz.f42 := by kernel_rfl
theorem sok42 : fdOk Tryz.prog XX sG43 Tryz.f42 d42 = true := by kernel_rfl
theorem ssnd42 : Sound Tryz.prog 42 (callT sG43 d42) := fd_sound mixed extAdd extSub sg43.ok sg43.fine sat42 sok42
noncomputable def sG42 : Tr Ent := (sG43 : Tr Ent).set (.i (.i (.o (.i (.o .h))))) (some (.t (callT sG43 d42) 5))
theorem srd42 : rdC sG43 d42.code = true := by kernel_rfl
theorem sg42 : ΓFit Tryz.prog sG42 := sg43.rd (p := (.i (.i (.o (.i (.o .h)))))) (fd_fnOk sat42 sok42) ssnd42 srd42
/-- halberd/hello.suite -/
theorem sat25 : Tryz.prog.funcs[25]? = some Tryz.f25 := by kernel_rfl
theorem sok25 : fdOk Tryz.prog XX sG42 Tryz.f25 d25 = true := by kernel_rfl
theorem ssnd25 : Sound Tryz.prog 25 (callT sG42 d25) := fd_sound mixed extAdd extSub sg42.ok sg42.fine sat25 sok25
noncomputable def sG25 : Tr Ent := (sG42 : Tr Ent).set (.o (.i (.o (.i .h)))) (some (.t (callT sG42 d25) 3))
theorem sg25 : ΓFit Tryz.prog sG25 := sg42.tree (p := (.o (.i (.o (.i .h))))) (fd_fnOk sat25 sok25) ssnd25
/-- halberd/hello.group -/
theorem sat26 : Tryz.prog.funcs[26]? = some Tryz.f26 := by kernel_rfl
theorem sok26 : fdOk Tryz.prog XX sG25 Tryz.f26 d26 = true := by kernel_rfl
theorem ssnd26 : Sound Tryz.prog 26 (callT sG25 d26) := fd_sound mixed extAdd extSub sg25.ok sg25.fine sat26 sok26
noncomputable def sG26 : Tr Ent := (sG25 : Tr Ent).set (.i (.i (.o (.i .h)))) (some (.t (callT sG25 d26) 3))
theorem sg26 : ΓFit Tryz.prog sG26 := sg25.tree (p := (.i (.i (.o (.i .h))))) (fd_fnOk sat26 sok26) ssnd26
/-- halberd/hello.in -/
theorem sat27 : Tryz.prog.funcs[27]? = some Tryz.f27 := by kernel_rfl
theorem sok27 : fdOk Tryz.prog XX sG26 Tryz.f27 d27 = true := by kernel_rfl
theorem ssnd27 : Sound Tryz.prog 27 (callT sG26 d27) := fd_sound mixed extAdd extSub sg26.ok sg26.fine sat27 sok27
noncomputable def sF27 : Fc := fun args hp nx => match args with
  | [.int .i64 x, .int .i64 a, .int .i64 b] => some (.bool (decide (a ≤ x) && decide (x ≤ b)), hp, nx)
  | _ => none
theorem sin1 (x a b : Int) : (callT sG26 d27 [.int .i64 x, .int .i64 a, .int .i64 b] .e .h).tell 10 (.n 2 .z (.n 0 .z (.n 1 .z (.n 0 .z (.n 0 .t (.n 0 .z (.n 1 .z (.n 2 .z (.n 0 .z (.n 0 .z (.n 0 .z .e))))))))))) = some (.bool (decide (x ≤ b)), [decide (a ≤ x) = true]) := by kernel_rfl
theorem sin2 (x a b : Int) : (callT sG26 d27 [.int .i64 x, .int .i64 a, .int .i64 b] .e .h).tell 10 (.n 2 .z (.n 0 .z (.n 1 .z (.n 0 .z (.n 0 .f .e))))) = some (.bool false, [decide (a ≤ x) = false]) := by kernel_rfl
theorem sown27 : Sound Tryz.prog 27 (Ent.f sF27 0).tc := by
  refine pure_sound ssnd27 fun args v h => ?_
  unfold sF27 at h
  split at h
  · rename_i x a b
    have h : some (V.bool (decide (a ≤ x) && decide (x ≤ b))) = some v := h
    cases h
    refine ⟨rfl, rfl, ?_⟩
    by_cases e : a ≤ x
    · exact tell_sound (sin1 x a b) ⟨decide_eq_true e, trivial⟩ fun hp nx => ⟨hp, nx, by simp [e]⟩
    · exact tell_sound (sin2 x a b) ⟨decide_eq_false e, trivial⟩ fun hp nx => ⟨hp, nx, by simp [e]⟩
  · cases h
noncomputable def sG27 : Tr Ent := (sG26 : Tr Ent).set (.o (.o (.i (.i .h)))) (some (.f sF27 0))
theorem sg27 : ΓFit Tryz.prog sG27 := sg26.put (p := (.o (.o (.i (.i .h))))) (fd_fnOk sat27 sok27) (sown27) trivial
/-- slices.Index[[]int,int] -/
theorem sat54 : Tryz.prog.funcs[54]? = some Tryz.f54 := by kernel_rfl
theorem sok54 : fdOk Tryz.prog XX sG27 Tryz.f54 d54 = true := by kernel_rfl
theorem ssnd54 : Sound Tryz.prog 54 (callT sG27 d54) := fd_sound mixed extAdd extSub sg27.ok sg27.fine sat54 sok54
noncomputable def sG54 : Tr Ent := (sG27 : Tr Ent).set (.i (.i (.i (.o (.i .h))))) (some (.t (callT sG27 d54) 5))
theorem srd54 : rdC sG27 d54.code = true := by kernel_rfl
theorem sg54 : ΓFit Tryz.prog sG54 := sg27.rd (p := (.i (.i (.i (.o (.i .h)))))) (fd_fnOk sat54 sok54) ssnd54 srd54
/-- slices.Contains[[]int,int] -/
theorem sat36 : Tryz.prog.funcs[36]? = some Tryz.f36 := by kernel_rfl
theorem sok36 : fdOk Tryz.prog XX sG54 Tryz.f36 d36 = true := by kernel_rfl
theorem ssnd36 : Sound Tryz.prog 36 (callT sG54 d36) := fd_sound mixed extAdd extSub sg54.ok sg54.fine sat36 sok36
noncomputable def sG36 : Tr Ent := (sG54 : Tr Ent).set (.i (.o (.i (.o (.o .h))))) (some (.t (callT sG54 d36) 5))
theorem srd36 : rdC sG54 d36.code = true := by kernel_rfl
theorem sg36 : ΓFit Tryz.prog sG36 := sg54.rd (p := (.i (.o (.i (.o (.o .h)))))) (fd_fnOk sat36 sok36) ssnd36 srd36
/-- halberd/hello.each -/
theorem sat24 : Tryz.prog.funcs[24]? = some Tryz.f24 := by kernel_rfl
theorem sok24 : fdOk Tryz.prog XX sG36 Tryz.f24 d24 = true := by kernel_rfl
theorem ssnd24 : Sound Tryz.prog 24 (callT sG36 d24) := fd_sound mixed extAdd extSub sg36.ok sg36.fine sat24 sok24
noncomputable def sG24 : Tr Ent := (sG36 : Tr Ent).set (.i (.o (.o (.i .h)))) (some (.t (callT sG36 d24) 3))
theorem sg24 : ΓFit Tryz.prog sG24 := sg36.tree (p := (.i (.o (.o (.i .h))))) (fd_fnOk sat24 sok24) ssnd24
/-- halberd/hello.certs$1 -/
theorem sat60 : Tryz.prog.funcs[60]? = some Tryz.f60 := by kernel_rfl
theorem sok60 : fdOk Tryz.prog XX sG24 Tryz.f60 d60 = true := by kernel_rfl
theorem ssnd60 : Sound Tryz.prog 60 (callT sG24 d60) := fd_sound mixed extAdd extSub sg24.ok sg24.fine sat60 sok60
noncomputable def sG60 : Tr Ent := (sG24 : Tr Ent).set (.i (.o (.i (.i (.i .h))))) (some (.t (callT sG24 d60) 3))
theorem sg60 : ΓFit Tryz.prog sG60 := sg24.tree (p := (.i (.o (.i (.i (.i .h)))))) (fd_fnOk sat60 sok60) ssnd60
/-- slices.IndexFunc[[]string,string] -/
theorem sat72 : Tryz.prog.funcs[72]? = some Tryz.f72 := by kernel_rfl
theorem sok72 : fdOk Tryz.prog XX sG60 Tryz.f72 d72 = true := by kernel_rfl
theorem ssnd72 : Sound Tryz.prog 72 (callT sG60 d72) := fd_sound mixed extAdd extSub sg60.ok sg60.fine sat72 sok72
noncomputable def sG72 : Tr Ent := (sG60 : Tr Ent).set (.i (.o (.o (.i (.o (.o .h)))))) (some (.t (callT sG60 d72) 3))
theorem sg72 : ΓFit Tryz.prog sG72 := sg60.tree (p := (.i (.o (.o (.i (.o (.o .h))))))) (fd_fnOk sat72 sok72) ssnd72
/-- slices.ContainsFunc[[]string,string] -/
theorem sat59 : Tryz.prog.funcs[59]? = some Tryz.f59 := by kernel_rfl
theorem sok59 : fdOk Tryz.prog XX sG72 Tryz.f59 d59 = true := by kernel_rfl
theorem ssnd59 : Sound Tryz.prog 59 (callT sG72 d59) := fd_sound mixed extAdd extSub sg72.ok sg72.fine sat59 sok59
noncomputable def sG59 : Tr Ent := (sG72 : Tr Ent).set (.o (.o (.i (.i (.i .h))))) (some (.t (callT sG72 d59) 3))
theorem sg59 : ΓFit Tryz.prog sG59 := sg72.tree (p := (.o (.o (.i (.i (.i .h)))))) (fd_fnOk sat59 sok59) ssnd59
/-- halberd/hello.certs -/
theorem sat44 : Tryz.prog.funcs[44]? = some Tryz.f44 := by kernel_rfl
theorem sok44 : fdOk Tryz.prog XX sG59 Tryz.f44 d44 = true := by kernel_rfl
theorem ssnd44 : Sound Tryz.prog 44 (callT sG59 d44) := fd_sound mixed extAdd extSub sg59.ok sg59.fine sat44 sok44
noncomputable def sG44 : Tr Ent := (sG59 : Tr Ent).set (.i (.o (.i (.i (.o .h))))) (some (.t (callT sG59 d44) 3))
theorem sg44 : ΓFit Tryz.prog sG44 := sg59.tree (p := (.i (.o (.i (.i (.o .h)))))) (fd_fnOk sat44 sok44) ssnd44
/-- halberd/hello.fits -/
theorem sat45 : Tryz.prog.funcs[45]? = some Tryz.f45 := by kernel_rfl
theorem sok45 : fdOk Tryz.prog XX sG44 Tryz.f45 d45 = true := by kernel_rfl
theorem ssnd45 : Sound Tryz.prog 45 (callT sG44 d45) := fd_sound mixed extAdd extSub sg44.ok sg44.fine sat45 sok45
noncomputable def sG45 : Tr Ent := (sG44 : Tr Ent).set (.o (.i (.i (.i (.o .h))))) (some (.t (callT sG44 d45) 3))
theorem sg45 : ΓFit Tryz.prog sG45 := sg44.tree (p := (.o (.i (.i (.i (.o .h)))))) (fd_fnOk sat45 sok45) ssnd45
/-- halberd/hello.server -/
theorem sat28 : Tryz.prog.funcs[28]? = some Tryz.f28 := by kernel_rfl
theorem sok28 : fdOk Tryz.prog XX sG45 Tryz.f28 d28 = true := by kernel_rfl
theorem ssnd28 : Sound Tryz.prog 28 (callT sG45 d28) := fd_sound mixed extAdd extSub sg45.ok sg45.fine sat28 sok28
noncomputable def sG28 : Tr Ent := (sG45 : Tr Ent).set (.i (.o (.i (.i .h)))) (some (.t (callT sG45 d28) 3))
theorem sg28 : ΓFit Tryz.prog sG28 := sg45.tree (p := (.i (.o (.i (.i .h))))) (fd_fnOk sat28 sok28) ssnd28
/-- halberd/hello.psk -/
theorem sat48 : Tryz.prog.funcs[48]? = some Tryz.f48 := by kernel_rfl
theorem sok48 : fdOk Tryz.prog XX sG28 Tryz.f48 d48 = true := by kernel_rfl
theorem ssnd48 : Sound Tryz.prog 48 (callT sG28 d48) := fd_sound mixed extAdd extSub sg28.ok sg28.fine sat48 sok48
noncomputable def sG48 : Tr Ent := (sG28 : Tr Ent).set (.i (.o (.o (.o (.i .h))))) (some (.t (callT sG28 d48) 3))
theorem sg48 : ΓFit Tryz.prog sG48 := sg28.tree (p := (.i (.o (.o (.o (.i .h)))))) (fd_fnOk sat48 sok48) ssnd48
/-- halberd/hello.client$1 -/
theorem sat47 : Tryz.prog.funcs[47]? = some Tryz.f47 := by kernel_rfl
theorem sok47 : fdOk Tryz.prog XX sG48 Tryz.f47 d47 = true := by kernel_rfl
theorem ssnd47 : Sound Tryz.prog 47 (callT sG48 d47) := fd_sound mixed extAdd extSub sg48.ok sg48.fine sat47 sok47
noncomputable def sG47 : Tr Ent := (sG48 : Tr Ent).set (.o (.o (.o (.o (.i .h))))) (some (.t (callT sG48 d47) 3))
theorem sg47 : ΓFit Tryz.prog sG47 := sg48.tree (p := (.o (.o (.o (.o (.i .h)))))) (fd_fnOk sat47 sok47) ssnd47
/-- slices.IndexFunc[[]halberd/api.Psk,halberd/api.Psk] -/
theorem sat61 : Tryz.prog.funcs[61]? = some Tryz.f61 := by kernel_rfl
theorem sok61 : fdOk Tryz.prog XX sG47 Tryz.f61 d61 = true := by kernel_rfl
theorem ssnd61 : Sound Tryz.prog 61 (callT sG47 d61) := fd_sound mixed extAdd extSub sg47.ok sg47.fine sat61 sok61
noncomputable def sG61 : Tr Ent := (sG47 : Tr Ent).set (.o (.i (.i (.i (.i .h))))) (some (.t (callT sG47 d61) 3))
theorem sg61 : ΓFit Tryz.prog sG61 := sg47.tree (p := (.o (.i (.i (.i (.i .h)))))) (fd_fnOk sat61 sok61) ssnd61
/-- slices.ContainsFunc[[]halberd/api.Psk,halberd/api.Psk] -/
theorem sat46 : Tryz.prog.funcs[46]? = some Tryz.f46 := by kernel_rfl
theorem sok46 : fdOk Tryz.prog XX sG61 Tryz.f46 d46 = true := by kernel_rfl
theorem ssnd46 : Sound Tryz.prog 46 (callT sG61 d46) := fd_sound mixed extAdd extSub sg61.ok sg61.fine sat46 sok46
noncomputable def sG46 : Tr Ent := (sG61 : Tr Ent).set (.i (.i (.i (.i (.o .h))))) (some (.t (callT sG61 d46) 3))
theorem sg46 : ΓFit Tryz.prog sG46 := sg61.tree (p := (.i (.i (.i (.i (.o .h)))))) (fd_fnOk sat46 sok46) ssnd46
/-- halberd/hello.client -/
theorem sat29 : Tryz.prog.funcs[29]? = some Tryz.f29 := by kernel_rfl
theorem sok29 : fdOk Tryz.prog XX sG46 Tryz.f29 d29 = true := by kernel_rfl
theorem ssnd29 : Sound Tryz.prog 29 (callT sG46 d29) := fd_sound mixed extAdd extSub sg46.ok sg46.fine sat29 sok29
noncomputable def sG29 : Tr Ent := (sG46 : Tr Ent).set (.o (.i (.i (.i .h)))) (some (.t (callT sG46 d29) 3))
theorem sg29 : ΓFit Tryz.prog sG29 := sg46.tree (p := (.o (.i (.i (.i .h))))) (fd_fnOk sat29 sok29) ssnd29
/-- halberd/hello.May -/
theorem sat11 : Tryz.prog.funcs[11]? = some Tryz.f11 := by kernel_rfl
theorem sok11 : fdOk Tryz.prog XX sG29 Tryz.f11 d11 = true := by kernel_rfl
theorem ssnd11 : Sound Tryz.prog 11 (callT sG29 d11) := fd_sound mixed extAdd extSub sg29.ok sg29.fine sat11 sok11
noncomputable def sG11 : Tr Ent := (sG29 : Tr Ent).set (.o (.o (.i .h))) (some (.t (callT sG29 d11) 3))
theorem sg11 : ΓFit Tryz.prog sG11 := sg29.tree (p := (.o (.o (.i .h)))) (fd_fnOk sat11 sok11) ssnd11
/-- halberd/hello.first -/
theorem sat35 : Tryz.prog.funcs[35]? = some Tryz.f35 := by kernel_rfl
theorem sok35 : fdOk Tryz.prog XX sG11 Tryz.f35 d35 = true := by kernel_rfl
theorem ssnd35 : Sound Tryz.prog 35 (callT sG11 d35) := fd_sound mixed extAdd extSub sg11.ok sg11.fine sat35 sok35
noncomputable def sG35 : Tr Ent := (sG11 : Tr Ent).set (.o (.o (.i (.o (.o .h))))) (some (.t (callT sG11 d35) 5))
theorem srd35 : rdC sG11 d35.code = true := by kernel_rfl
theorem sg35 : ΓFit Tryz.prog sG35 := sg11.rd (p := (.o (.o (.i (.o (.o .h)))))) (fd_fnOk sat35 sok35) ssnd35 srd35
/-- (*halberd/hello.asking).offers -/
theorem sat21 : Tryz.prog.funcs[21]? = some Tryz.f21 := by kernel_rfl
theorem sok21 : fdOk Tryz.prog XX sG35 Tryz.f21 d21 = true := by kernel_rfl
theorem ssnd21 : Sound Tryz.prog 21 (callT sG35 d21) := fd_sound mixed extAdd extSub sg35.ok sg35.fine sat21 sok21
noncomputable def sG21 : Tr Ent := (sG35 : Tr Ent).set (.o (.i (.i (.o .h)))) (some (.t (callT sG35 d21) 3))
theorem sg21 : ΓFit Tryz.prog sG21 := sg35.tree (p := (.o (.i (.i (.o .h))))) (fd_fnOk sat21 sok21) ssnd21
/-- (*halberd/hello.asking).shares$1 -/
theorem sat38 : Tryz.prog.funcs[38]? = some Tryz.f38 := by kernel_rfl
theorem sok38 : fdOk Tryz.prog XX sG21 Tryz.f38 d38 = true := by kernel_rfl
theorem ssnd38 : Sound Tryz.prog 38 (callT sG21 d38) := fd_sound mixed extAdd extSub sg21.ok sg21.fine sat38 sok38
noncomputable def sG38 : Tr Ent := (sG21 : Tr Ent).set (.i (.i (.i (.o (.o .h))))) (some (.t (callT sG21 d38) 3))
theorem sg38 : ΓFit Tryz.prog sG38 := sg21.tree (p := (.i (.i (.i (.o (.o .h)))))) (fd_fnOk sat38 sok38) ssnd38
/-- (*halberd/hello.asking).shares$2 -/
theorem sat40 : Tryz.prog.funcs[40]? = some Tryz.f40 := by kernel_rfl
theorem sok40 : fdOk Tryz.prog XX sG38 Tryz.f40 d40 = true := by kernel_rfl
theorem ssnd40 : Sound Tryz.prog 40 (callT sG38 d40) := fd_sound mixed extAdd extSub sg38.ok sg38.fine sat40 sok40
noncomputable def sG40 : Tr Ent := (sG38 : Tr Ent).set (.i (.o (.o (.i (.o .h))))) (some (.t (callT sG38 d40) 3))
theorem sg40 : ΓFit Tryz.prog sG40 := sg38.tree (p := (.i (.o (.o (.i (.o .h)))))) (fd_fnOk sat40 sok40) ssnd40
/-- slices.IndexFunc[[]halberd/api.Share,halberd/api.Share] -/
theorem sat39 : Tryz.prog.funcs[39]? = some Tryz.f39 := by kernel_rfl
theorem sok39 : fdOk Tryz.prog XX sG40 Tryz.f39 d39 = true := by kernel_rfl
theorem ssnd39 : Sound Tryz.prog 39 (callT sG40 d39) := fd_sound mixed extAdd extSub sg40.ok sg40.fine sat39 sok39
noncomputable def sG39 : Tr Ent := (sG40 : Tr Ent).set (.o (.o (.o (.i (.o .h))))) (some (.t (callT sG40 d39) 3))
theorem sg39 : ΓFit Tryz.prog sG39 := sg40.tree (p := (.o (.o (.o (.i (.o .h)))))) (fd_fnOk sat39 sok39) ssnd39
/-- slices.ContainsFunc[[]halberd/api.Share,halberd/api.Share] -/
theorem sat37 : Tryz.prog.funcs[37]? = some Tryz.f37 := by kernel_rfl
theorem sok37 : fdOk Tryz.prog XX sG39 Tryz.f37 d37 = true := by kernel_rfl
theorem ssnd37 : Sound Tryz.prog 37 (callT sG39 d37) := fd_sound mixed extAdd extSub sg39.ok sg39.fine sat37 sok37
noncomputable def sG37 : Tr Ent := (sG39 : Tr Ent).set (.o (.i (.i (.o (.o .h))))) (some (.t (callT sG39 d37) 3))
theorem sg37 : ΓFit Tryz.prog sG37 := sg39.tree (p := (.o (.i (.i (.o (.o .h)))))) (fd_fnOk sat37 sok37) ssnd37
/-- (*halberd/hello.asking).shares -/
theorem sat22 : Tryz.prog.funcs[22]? = some Tryz.f22 := by kernel_rfl
theorem sok22 : fdOk Tryz.prog XX sG37 Tryz.f22 d22 = true := by kernel_rfl
theorem ssnd22 : Sound Tryz.prog 22 (callT sG37 d22) := fd_sound mixed extAdd extSub sg37.ok sg37.fine sat22 sok22
noncomputable def sG22 : Tr Ent := (sG37 : Tr Ent).set (.i (.i (.i (.o .h)))) (some (.t (callT sG37 d22) 3))
theorem sg22 : ΓFit Tryz.prog sG22 := sg37.tree (p := (.i (.i (.i (.o .h))))) (fd_fnOk sat22 sok22) ssnd22
/-- halberd/ticket.Open -/
theorem sat55 : Tryz.prog.funcs[55]? = some Tryz.f55 := by kernel_rfl
noncomputable def sG55 : Tr Ent := (sG22 : Tr Ent).set (.o (.o (.o (.i (.i .h))))) (some (.f (fun _ _ _ => none) 0))
theorem sg55 : ΓFit Tryz.prog sG55 := sg22.put (p := (.o (.o (.o (.i (.i .h)))))) ⟨Tryz.f55, sat55, by kernel_rfl, by kernel_rfl⟩ void_sound trivial
/-- halberd/hello.Opened -/
theorem sat41 : Tryz.prog.funcs[41]? = some Tryz.f41 := by kernel_rfl
theorem sok41 : fdOk Tryz.prog XX sG55 Tryz.f41 d41 = true := by kernel_rfl
theorem ssnd41 : Sound Tryz.prog 41 (callT sG55 d41) := fd_sound mixed extAdd extSub sg55.ok sg55.fine sat41 sok41
noncomputable def sG41 : Tr Ent := (sG55 : Tr Ent).set (.o (.i (.o (.i (.o .h))))) (some (.t (callT sG55 d41) 3))
theorem sg41 : ΓFit Tryz.prog sG41 := sg55.tree (p := (.o (.i (.o (.i (.o .h)))))) (fd_fnOk sat41 sok41) ssnd41
/-- (*halberd/hello.asking).proof -/
theorem sat23 : Tryz.prog.funcs[23]? = some Tryz.f23 := by kernel_rfl
theorem sok23 : fdOk Tryz.prog XX sG41 Tryz.f23 d23 = true := by kernel_rfl
theorem ssnd23 : Sound Tryz.prog 23 (callT sG41 d23) := fd_sound mixed extAdd extSub sg41.ok sg41.fine sat23 sok23
noncomputable def sG23 : Tr Ent := (sG41 : Tr Ent).set (.o (.o (.o (.i .h)))) (some (.t (callT sG41 d23) 3))
theorem sg23 : ΓFit Tryz.prog sG23 := sg41.tree (p := (.o (.o (.o (.i .h))))) (fd_fnOk sat23 sok23) ssnd23
/-- halberd/hello.Choose -/
theorem sat10 : Tryz.prog.funcs[10]? = some Tryz.f10 := by kernel_rfl
theorem sok10 : fdOk Tryz.prog XX sG23 Tryz.f10 d10 = true := by kernel_rfl
theorem ssnd10 : Sound Tryz.prog 10 (callT sG23 d10) := fd_sound mixed extAdd extSub sg23.ok sg23.fine sat10 sok10
noncomputable def sG10 : Tr Ent := (sG23 : Tr Ent).set (.i (.i (.o .h))) (some (.t (callT sG23 d10) 3))
theorem sg10 : ΓFit Tryz.prog sG10 := sg23.tree (p := (.i (.i (.o .h)))) (fd_fnOk sat10 sok10) ssnd10
end Go.Proofs.YtmgbeipdeeegoaaGreatDoor.S

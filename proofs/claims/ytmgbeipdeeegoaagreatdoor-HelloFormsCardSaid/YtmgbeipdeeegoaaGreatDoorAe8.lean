/- An abstract evaluator of translated Go code, eighth part: operations that make or write memory. -/
import Derived.Test.YtmgbeipdeeegoaaGreatDoorAe7
import Derived.Laws.Tables
namespace Go.AE
open Go.RowKit

variable {P : Program} {Γ : Tr Ent} {B N : Nat} {w0 : World} {m : Mp} {S : St} {o : Oper} {o' : O} {a : Act} {w : World}

/-- Stores, one behind the other, into an array: a splice. -/
theorem foldl_set (off : Nat) : ∀ (vs : List Value) (k : Nat) (cells : Array Value), off + k + vs.length ≤ cells.size →
    ((vs.zipIdx k).foldl (fun cs (c, j) => cs.setIfInBounds (off + j) c) cells).toList = splice cells.toList (off + k) vs
  | [], k, cells, _ => by simp [splice]
  | v :: vs, k, cells, h => by
    simp only [List.length_cons] at h
    simp only [List.zipIdx_cons, List.foldl_cons]
    rw [foldl_set off vs (k + 1) _ (by simp; omega)]
    apply List.ext_getElem?
    intro i
    rw [splice_get _ _ _ (by simp; omega), splice_get _ _ _ (by simp; omega)]
    simp only [Array.toList_setIfInBounds, List.getElem?_set, List.length_cons]
    by_cases e : i = off + k
    · subst e
      rw [if_neg (by omega), if_pos rfl, if_pos (by simp; omega), if_pos (by omega)]
      simp
    · by_cases e2 : off + (k + 1) ≤ i ∧ i < off + (k + 1) + vs.length
      · rw [if_pos e2, if_pos (by omega)]
        obtain ⟨q, rfl⟩ : ∃ q, i = off + k + 1 + q := ⟨i - (off + k + 1), by omega⟩
        rw [show off + k + 1 + q - (off + (k + 1)) = q by omega, show off + k + 1 + q - (off + k) = q + 1 by omega]; simp
      · rw [if_neg e2, if_neg (fun h => e h.symm), if_neg (fun h => e2 (by omega))]

theorem fill_rel (hF : FRel m N S.tm a.eval) {place : Nat → Option (Nat × Nat)} : ∀ (parts : List (Nat × Operand)) (parts' : List (Nat × Nat × Opd)) (z cs : List V) (zs : Array Value),
    parts.length = parts'.length → (∀ (q : Nat) i x off size y, parts[q]? = some (i, x) → parts'[q]? = some (off, size, y) → place i = some (off, size) ∧ okOpd x y = true) →
    fillV S.tm z parts' = some cs → VRels m z zs.toList → (∀ x ∈ zs.toList, x.oneCell' = true) →
    ∃ cells, Instr.fill place zs (parts.map fun (i, x) => (i, a.eval x)) = some cells ∧ VRels m cs cells.toList ∧ (∀ x ∈ cells.toList, x.oneCell' = true) ∧ cells.size = zs.size
  | [], [], z, cs, zs, _, _, h, hz, h1 => by simp [fillV] at h; subst h; exact ⟨zs, rfl, hz, h1, rfl⟩
  | [], _ :: _, _, _, _, h, _, _, _, _ => by simp at h
  | _ :: _, [], _, _, _, h, _, _, _, _ => by simp at h
  | (i, x) :: parts, (off, size, y) :: parts', z, cs, zs, hl, hp, h, hz, h1 => by
    obtain ⟨hpl, hxy⟩ := hp 0 i x off size y rfl rfl
    unfold fillV at h
    split at h
    case h_2 => simp at h
    rename_i hd
    obtain ⟨hd1, hd2⟩ := of_decide_eq_true hd
    split at h
    case h_2 => simp at h
    rename_i hok
    have hr := (ev_rel hF hxy).cells hok
    have hlen := hr.length
    have h1v := allOk_one hr hok
    have hzl := hz.length
    have hsz : (a.eval x).cells.size = size := by rw [← hd1, hlen]; simp
    have hfold : ((a.eval x).cells.zipIdx.foldl (fun cs (c, j) => cs.setIfInBounds (off + j) c) zs).toList = splice zs.toList off (a.eval x).cells.toList := by
      rw [← Array.foldl_toList, Array.toList_zipIdx]
      have := foldl_set off (a.eval x).cells.toList 0 zs (by simp at hzl ⊢; omega)
      simpa using this
    have hnew : VRels m (splice z off (ev S.tm y).cells) ((a.eval x).cells.zipIdx.foldl (fun cs (c, j) => cs.setIfInBounds (off + j) c) zs).toList := by
      rw [hfold]
      unfold splice
      rw [hlen]
      exact ((hz.take off).append hr).append (hz.drop _)
    have h1n : ∀ q ∈ ((a.eval x).cells.zipIdx.foldl (fun cs (c, j) => cs.setIfInBounds (off + j) c) zs).toList, q.oneCell' = true := by
      rw [hfold]
      unfold splice
      intro q hq
      rcases List.mem_append.1 hq with hq | hq
      · rcases List.mem_append.1 hq with hq | hq
        · exact h1 q (List.mem_of_mem_take hq)
        · exact h1v q hq
      · exact h1 q (List.mem_of_mem_drop hq)
    obtain ⟨cells, hf, hv, hv1, hs⟩ := fill_rel hF parts parts' _ cs _ (by simpa using hl) (fun q i x off size y a b => hp (q + 1) i x off size y (by simpa using a) (by simpa using b)) h hnew h1n
    refine ⟨cells, ?_, hv, hv1, ?_⟩
    · simp only [List.map_cons, Instr.fill, hpl]
      rw [if_neg (fun h => by
        simp only [Bool.or_eq_true, decide_eq_true_eq] at h
        rcases h with h | h
        · exact h hsz
        · simp only [Array.length_toList] at hzl; omega)]
      exact hf
    · rw [hs]
      have := congrArg List.length hfold
      simp only [Array.length_toList] at this
      rw [this]
      simp only [Array.length_toList] at hzl
      simp [splice]
      omega

theorem fresh_sat {off : Nat} {adv adv' : Bool} {k : P2 → P2 → E} {hp : Tr Reg} {nx : P2} {R : V → Tr Reg → P2 → Prop} (h : (fresh S off adv k).sat hp nx adv' R) :
    ∃ j nx', S.hp.get j = none ∧ (k j nx').sat hp nx adv' R := by
  unfold fresh at h
  split at h
  · exact ⟨_, _, by assumption, h⟩
  · exact h.elim

theorem snd_alloc (hH : HRep B w0 m S.hp w) {e : TypeId} {z : List V} {zv : Value} (hop : o.op = .alloc e) (hi : o'.i = .alloc z)
    (hz : tZero P e = some zv) (hr : okScals zv.cells.toList z = true) : Snd P Γ B w0 m S o' w (execOp a.eval o) := by
  intro R K hs hK
  simp only [evalI, e_alloc, hi] at hs
  obtain ⟨j, nx', hj, hs⟩ := fresh_sat hs
  have hv := okScals_rel hr m
  have hal := hH.alloc hj (c := zv.cells) (el := e) (fr := (0, 0)) hv (fun i x e => by simpa using e) (fun i _ => by omega)
  refine Does.val (v := .pointer (some ⟨w.heap.size, 0, none⟩)) (w' := { w with heap := w.heap.push (.cells zv.cells e) }) ?_ (hK _ _ _ _ _ _ hs (Mp.le_upd (hH.noKey hj)) ?_ hal)
  · simp [execOp, hop, Instr.alloc, run_zero hz, newVar, newRow]
  · exact .ptr (o := 0) Mp.upd_self

theorem snd_box (hH : HRep B w0 m S.hp w) (hF : FRel m N S.tm a.eval) {e : TypeId} {x : Operand} {x' : Opd} (hop : o.op = .box e x) (hi : o'.i = .box x') (hx : okOpd x x' = true) : Snd P Γ B w0 m S o' w (execOp a.eval o) := by
  intro R K hs hK
  simp only [evalI, e_box, hi] at hs
  obtain ⟨hok, hs⟩ := hs
  obtain ⟨j, nx', hj, hs⟩ := fresh_sat hs
  have hv := (ev_rel hF hx).cells hok
  have hal := hH.alloc hj (c := (a.eval x).cells) (el := e) (fr := (0, 0)) hv (fun i x e => by simpa using e) (fun i _ => by omega)
  refine Does.val (v := .pointer (some ⟨w.heap.size, 0, none⟩)) (w' := { w with heap := w.heap.push (.cells (a.eval x).cells e) }) ?_ (hK _ _ _ _ _ _ hs (Mp.le_upd (hH.noKey hj)) ?_ hal)
  · simp [execOp, hop, Instr.box, newVar, newRow]
  · exact .ptr (o := 0) Mp.upd_self

theorem snd_store (hH : HRep B w0 m S.hp w) (hF : FRel m N S.tm a.eval) {sz : Nat} {t : TypeId} {x v : Operand} {x' v' : Opd} (hop : o.op = .store t x v) (hi : o'.i = .store sz x' v') (hx : okOpd x x' = true) (hv : okOpd v v' = true)
    (hz : tSize P t = some sz) : Snd P Γ B w0 m S o' w (execOp a.eval o) := by
  intro R K hs hK
  simp only [evalI, e_store, hi] at hs
  have hxr := ev_rel hF hx
  have hvr := ev_rel hF hv
  generalize ev S.tm x' = xv at hs hxr
  generalize ev S.tm v' = vv at hs hvr
  generalize hxe : a.eval x = xe at hxr
  generalize hve : a.eval v = ve at hvr
  split at hs
  · obtain ⟨hl, hok, cs, hw, hs⟩ := hs
    have hl := Nat.eq_of_beq_eq_true hl
    cases hxr
    rename_i j p b o1 n1 hm
    have hc := hvr.cells hok
    have h1 := allOk_one hc hok
    have hcl := hc.length
    obtain ⟨w', hrun, hH'⟩ := hH.write (P := P) hm hw hc h1
    have hsz : ve.cells.size = sz := by rw [← hl, hcl]; simp
    have hr : (execOp a.eval o).run P w = .ok .skip w' := by
      simp only [execOp, hop, hxe, hve, Instr.storeAt, Instr.sureAddr, Sem.run_bind, Sem.run_pure, Result.andThen, storeVar, run_size hz]
      rw [if_neg (by simp [hsz])]
      simp only [hrun]
    unfold Does
    rw [hr]
    exact hK _ _ _ _ _ _ hs (Mp.le_refl m) (.un _) hH'
  · exact hs.elim

theorem snd_build (hH : HRep B w0 m S.hp w) (hF : FRel m N S.tm a.eval) {t : TypeId} {z : List V} {zv : Value} {parts : Array (Nat × Operand)} {parts' : List (Nat × Nat × Opd)} (hop : o.op = .build t parts) (hi : o'.i = .build z parts')
    (hr : okScals zv.cells.toList z = true) (hok : allOk z = true) {place : Nat → Option (Nat × Nat)} (hb : ∀ ps cells, Instr.fill place zv.cells ps = some cells → P.built t ps = some cells)
    (hl : parts.toList.length = parts'.length) (hp : ∀ (q : Nat) i x off size y, parts.toList[q]? = some (i, x) → parts'[q]? = some (off, size, y) → place i = some (off, size) ∧ okOpd x y = true) : Snd P Γ B w0 m S o' w (execOp a.eval o) :=
  .pure hH fun R hs => by
    simp only [evalI, e_build, hi] at hs
    obtain ⟨cs, hcs, hs⟩ := hs
    have hv := okScals_rel hr m
    obtain ⟨cells, hf, hcv, _, _⟩ := fill_rel hF parts.toList parts' z cs zv.cells hl hp hcs hv (allOk_one hv hok)
    have := hb _ _ hf
    refine ⟨_, .agg cells, hs, ?_, .agg hcv⟩
    have hrun := run_build (P := P) w t (parts.map fun (i, x) => (i, a.eval x)) cells (by rw [Array.toList_map]; exact this)
    simp [execOp, hop, hrun]
end Go.AE

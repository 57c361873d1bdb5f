/- An abstract evaluator of translated Go code, ninth part: slices that are made, appended to, copied; calls. -/
import Derived.Test.YtmgbeipdeeegoaaGreatDoorAe8
import Derived.Laws.Externs
namespace Go.AE
open Go.RowKit

variable {P : Program} {Γ : Tr Ent} {B N : Nat} {w0 : World} {m : Mp} {S : St} {o : Oper} {o' : O} {a : Act} {w : World}

theorem zrow (zero : Array Value) : ∀ len : Nat, ((Array.range (len * zero.size)).map (fun i => zero[i % zero.size]!)).toList = (List.replicate len zero.toList).flatten := by
  intro len
  rw [Array.toList_map, Array.toList_range]
  induction len with
  | zero => simp
  | succ n ih =>
    rw [Nat.succ_mul, List.range_add, List.map_append, ih, List.replicate_succ', List.flatten_append]
    congr 1
    rw [List.flatten_singleton, List.map_map]
    apply List.ext_getElem?
    intro i
    rw [List.getElem?_map]
    by_cases h : i < zero.size
    · rw [List.getElem?_range h]
      simp only [Option.map_some, Function.comp]
      rw [Nat.mul_add_mod_self_right, Nat.mod_eq_of_lt h]
      simp [h]
    · rw [List.getElem?_eq_none (by simp; omega), List.getElem?_eq_none (by simp; omega)]; rfl

theorem snd_bsl (hH : HRep B w0 m S.hp w) (hF : FRel m N S.tm a.eval) {t e : TypeId} {sz len : Nat} {z : List V} {zv : Value} {parts : Array (Nat × Operand)} {parts' : List (Nat × Nat × Opd)} (hop : o.op = .buildSlice t len parts) (hi : o'.i = .bsl sz len z parts')
    (ht : P.underlying t = some (.slice e)) (hsz : tSize P e = some sz) (hle : len * sz ≤ 16777216) (hz : tZero P e = some zv) (hzs : zv.cells.size = sz) (hz0 : sz ≠ 0) (hr : okScals ((List.replicate len zv.cells.toList).flatten) z = true) (hok : allOk z = true)
    (hl : parts.toList.length = parts'.length) (hp : ∀ (q : Nat) i x off size y, parts.toList[q]? = some (i, x) → parts'[q]? = some (off, size, y) → (i * sz = off ∧ sz = size) ∧ okOpd x y = true) : Snd P Γ B w0 m S o' w (execOp a.eval o) := by
  intro R K hs hK
  simp only [evalI, e_bsl, hi] at hs
  obtain ⟨j, nx', hj, cs, hcs, hs⟩ := fresh_sat hs
  have hv := okScals_rel hr m
  let zs : Array Value := (Array.range (len * sz)).map fun i => zv.cells[i % zv.cells.size]!
  have hzl : zs.toList = (List.replicate len zv.cells.toList).flatten := by subst hzs; exact zrow zv.cells len
  have hzsz : zs.size = len * sz := by simp [zs]
  obtain ⟨cells, hf, hcv, _, hcsz⟩ := fill_rel hF (place := fun i => some (i * sz, sz)) parts.toList parts' z cs zs hl (fun q i x off size y h1 h2 => by
    obtain ⟨⟨rfl, rfl⟩, h⟩ := hp q i x off size y h1 h2; exact ⟨rfl, h⟩) hcs (by rw [hzl]; exact hv) (by rw [hzl]; exact allOk_one hv hok)
  have hal := hH.alloc hj (c := cells) (el := e) (fr := (0, 0)) hcv (fun i x e => by simpa using e) (fun i _ => by omega)
  refine Does.val (v := .slice (some ⟨w.heap.size, 0, none⟩) len len) (w' := { w with heap := w.heap.push (.cells cells e) }) ?_ (hK _ _ _ _ _ _ hs (Mp.le_upd (hH.noKey hj)) ?_ hal)
  · have hmap : (parts.map fun (i, x) => (i, a.eval x)).toList = parts.toList.map fun (i, x) => (i, a.eval x) := by rw [Array.toList_map]
    have hff : ∀ f : Nat → Value, (len * sz = 0 ∨ f = fun i => zv.cells[i % zv.cells.size]!) → Instr.fill (fun i => some (i * sz, sz)) ((Array.range (len * sz)).map f) (parts.map fun (i, x) => (i, a.eval x)).toList = some cells := by
      rintro f (h0 | rfl)
      · have he : ∀ g : Nat → Value, (Array.range (len * sz)).map g = #[] := fun g => by rw [h0]; simp
        have hz0' : zs = #[] := he _
        rw [hmap, ← hf, he, hz0']
      · rw [hmap, ← hf]
    have hrun : (Instr.buildSlice t len (parts.map fun (i, x) => (i, a.eval x))).run P w = .ok (.slice (some ⟨w.heap.size, 0, none⟩) len len) { w with heap := w.heap.push (.cells cells e) } := by
      simp only [Instr.buildSlice, Sem.run_bind, run_und ht, Result.andThen, run_size hsz, Sem.run_ite]
      rw [if_neg (by omega)]
      by_cases h0 : len * sz = 0
      · simp only [h0, if_true, Sem.run_pure]
        have := hff (fun i => (#[] : Array Value)[i % (#[] : Array Value).size]!) (Or.inl h0)
        rw [h0] at this
        rw [this]
        simp [newRow]
      · simp only [h0, if_false, run_zero hz, Sem.run_pure]
        rw [hff _ (Or.inr rfl)]
        simp [newRow]
    simp only [execOp, hop, Sem.run_bind, hrun, Result.andThen, Sem.run_pure]
  · exact .sl (o := 0) Mp.upd_self (Nat.le_refl _) (fun c0 e => by injection e) (by simp [hcsz, hzsz])

theorem wrap64_id {n : Int} (h0 : 0 ≤ n) (h : n ≤ 281474976710656) : IntKind.i64.wrap n = n := by
  unfold IntKind.wrap
  simp [IntKind.bits, IntKind.signed]
  omega

theorem snd_mks (hH : HRep B w0 m S.hp w) (hF : FRel m N S.tm a.eval) {t e : TypeId} {sz bytes : Nat} {z : List V} {zv : Value} {l c : Operand} {l' c' : Opd} (hop : o.op = .makeSlice t l c) (hi : o'.i = .mks sz bytes z l' c')
    (hl : okOpd l l' = true) (hc : okOpd c c' = true) (ht : P.underlying t = some (.slice e)) (hsz : tSize P e = some sz) (hb : tBytes P e = some bytes) (hz : tZero P e = some zv) (hzs : zv.cells.size = sz) (hz0 : sz ≠ 0) (hr : okScals zv.cells.toList z = true) : Snd P Γ B w0 m S o' w (execOp a.eval o) := by
  intro R K hs hK
  simp only [evalI, e_mks, hi] at hs
  have hlr := ev_rel hF hl
  have hcr := ev_rel hF hc
  generalize ev S.tm l' = lv at hs hlr
  generalize ev S.tm c' = cv at hs hcr
  generalize hle : a.eval l = le at hlr
  generalize hce : a.eval c = ce at hcr
  split at hs
  case h_2 => exact hs.elim
  rename_i k1 n1 k2 n2
  obtain ⟨hcond, hs⟩ := hs
  have hcond := of_decide_eq_true hcond
  obtain ⟨j, nx', hj, cs, hcs, hs⟩ := fresh_sat hs
  cases hlr; cases hcr
  obtain ⟨c1, c2, c3, c4⟩ := hcond
  cases hcs
  have hv := okScals_rel hr m
  let zs : Array Value := (Array.range (n2.toNat * sz)).map fun i => zv.cells[i % zv.cells.size]!
  have hzl : zs.toList = (List.replicate n2.toNat zv.cells.toList).flatten := by subst hzs; exact zrow zv.cells _
  have hzsz : zs.size = n2.toNat * sz := by simp [zs]
  have hcv : VRels m (List.replicate n2.toNat z).flatten zs.toList := by rw [hzl]; exact hv.flatten_replicate _
  have hal := hH.alloc hj (c := zs) (el := e) (fr := (0, 0)) hcv (fun i x e => by simpa using e) (fun i _ => by omega)
  refine Does.val (v := .slice (some ⟨w.heap.size, 0, none⟩) n1.toNat n2.toNat) (w' := { w with heap := w.heap.push (.cells zs e) }) ?_ (hK _ _ _ _ _ _ hs (Mp.le_upd (hH.noKey hj)) ?_ hal)
  · obtain ⟨ie, hie, hbe⟩ := run_bytes hb w
    have e1 := wrap64_id c1 (by omega)
    have e2 := wrap64_id (by omega) c4
    have hrun : (Instr.makeSlice t (.int k1 n1) (.int k2 n2)).run P w = .ok (.slice (some ⟨w.heap.size, 0, none⟩) n1.toNat n2.toNat) { w with heap := w.heap.push (.cells zs e) } := by
      simp only [Instr.makeSlice, Sem.run_bind, run_und ht, Result.andThen, asInt, asIntOf, Sem.run_pure, hie, hbe, e1, e2, Sem.run_ite]
      rw [if_neg (by
        intro h
        simp only [Bool.or_eq_true, decide_eq_true_eq] at h
        omega)]
      by_cases h0 : n2.toNat * sz = 0
      · have hz0' : zs = #[] := by simp [zs, h0]
        have he : ∀ g : Nat → Value, (Array.range 0).map g = #[] := fun g => by simp
        simp only [run_askRoom, run_size hsz, h0, if_true, newRow, Sem.run_bind, Sem.run_pure, run_newObj, Result.andThen, hz0', he]
      · simp only [run_askRoom, run_size hsz, h0, if_false, run_zero hz, newRow, Sem.run_bind, Sem.run_pure, run_newObj, Result.andThen]
        rfl
    simp only [execOp, hop, hle, hce, Sem.run_bind, hrun, Result.andThen, Sem.run_pure]
  · exact .sl (o := 0) Mp.upd_self (by omega) (fun c0 e => by injection e) (by simp [hzsz])

theorem push_modify {α : Type} (h : Array α) (x : α) (f : α → α) : (h.push x).modify h.size f = h.push (f x) := by
  apply Array.ext_getElem?
  intro i
  rw [Array.getElem?_modify, Array.getElem?_push, Array.getElem?_push]
  by_cases e : h.size = i
  · subst e; simp
  · rw [if_neg e, if_neg (fun h => e h.symm), if_neg (fun h => e h.symm)]

theorem snd_s2b (hH : HRep B w0 m S.hp w) (hF : FRel m N S.tm a.eval) {s t e : TypeId} {x : Operand} {x' : Opd} (hop : o.op = .convert s t x) (hi : o'.i = .s2b x')
    (hx : okOpd x x' = true) (hs' : P.underlying s = some .string) (ht : P.underlying t = some (.slice e)) (he : P.underlying e = some (.int .u8)) : Snd P Γ B w0 m S o' w (execOp a.eval o) := by
  intro R K hs hK
  simp only [evalI, e_s2b, hi] at hs
  have hxr := ev_rel hF hx
  generalize ev S.tm x' = xv at hs hxr
  generalize hxe : a.eval x = xe at hxr
  split at hs
  case h_2 => exact hs.elim
  rename_i str
  obtain ⟨j, nx', hj, cs, hcs, hs⟩ := fresh_sat hs
  cases hcs
  cases hxr
  let cap : Nat := (Question.appendCap str.length 0 e).cut (w.tape w.drawn (Question.appendCap str.length 0 e))
  have hcap : str.length ≤ cap := by simp [cap, Question.cut]
  let elems : Array Value := (str.map fun b => Value.int .u8 (b.toNat : Int)).toArray
  let c : Array Value := elems ++ Array.replicate (cap - str.length) (.int .u8 0)
  have hel : elems.size = str.length := by simp [elems]
  have hcs : c.size = cap := by simp [c, hel]; omega
  have hv : ∀ (l : List UInt8), VRels m (ofBytes l) (l.map fun b => Value.int .u8 (b.toNat : Int)) := by
    intro l
    induction l with
    | nil => exact .nil
    | cons b r ih => exact .cons (.int _ _) ih
  have hal := (hH.drew).alloc (w := { w with drawn := w.drawn + 1 }) hj (c := c) (el := e) (fr := (cap, cap + 1)) (hv str) (fun i x hx => by
    have hi : i < str.length := by
      rcases Nat.lt_or_ge i str.length with h | h
      · exact h
      · rw [List.getElem?_eq_none (by simpa using h)] at hx; simp at hx
    show (elems ++ _)[i]? = _
    rw [Array.getElem?_append_left (by rw [hel]; exact hi)]
    simpa [elems] using hx) (fun i hi => by omega)
  refine Does.val (v := .slice (some ⟨w.heap.size, 0, none⟩) str.length cap) (w' := { w with drawn := w.drawn + 1, heap := w.heap.push (.cells c e (cap, cap + 1)) }) ?_ (hK _ _ _ _ _ _ hs (Mp.le_upd (hH.noKey hj)) ?_ hal)
  · have hconv : (convert s t (.string ⟨⟨str⟩⟩)).run P w = (Conv.stringToBytes e ⟨⟨str⟩⟩).run P w := by
      unfold convert
      simp only [Sem.run_bind, run_und hs', run_und ht, Result.andThen, run_und he]
    have hdata : ((ByteArray.mk ⟨str⟩).data.map fun b => Value.int .u8 (b.toNat : Int)) = elems := by apply Array.ext'; simp [elems]
    have hsb : (Conv.stringToBytes e ⟨⟨str⟩⟩).run P w = .ok (.slice (some ⟨w.heap.size, 0, none⟩) str.length cap) { w with drawn := w.drawn + 1, heap := w.heap.push (.cells c e (cap, cap + 1)) } := by
      unfold Conv.stringToBytes
      simp only [Sem.run_bind, run_choose, Question.forced, Bool.false_eq_true, if_false, Result.andThen, newRow, run_newObj, Sem.run_pure, hdata, markStringish, run_shape]
      have hsh : World.shape? { w with drawn := w.drawn + 1, heap := w.heap.push (.cells c e) } w.heap.size = some (e, cap) := by
        simp [World.shape?, hcs]
      have hfr : World.freeze { w with drawn := w.drawn + 1, heap := w.heap.push (.cells c e) } { block := w.heap.size, off := cap } 1 = { w with drawn := w.drawn + 1, heap := w.heap.push (.cells c e (cap, cap + 1)) } := by
        simp only [World.freeze, Nat.one_ne_zero, if_false, push_modify]
        simp
      erw [hsh]
      simp only [run_freeze]
      erw [hfr]
      rfl
    simp only [execOp, hop, hxe, Sem.run_bind, hconv, hsb, Result.andThen, Sem.run_pure]
  · exact .sl (o := 0) Mp.upd_self hcap (fun c0 e => by simp at e) (by omega)
end Go.AE

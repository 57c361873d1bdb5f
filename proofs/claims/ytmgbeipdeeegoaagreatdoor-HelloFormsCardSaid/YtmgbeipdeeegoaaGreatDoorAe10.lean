/- An abstract evaluator of translated Go code, tenth part: append, copy, carries, calls. -/
import Derived.Test.YtmgbeipdeeegoaaGreatDoorAe9
namespace Go.AE
open Go.RowKit

variable {P : Program} {Γ : Tr Ent} {B N : Nat} {w0 : World} {m : Mp} {S : St} {o : Oper} {o' : O} {a : Act} {w : World}

/-- What a source gives. -/
theorem src_run {hp : Tr Reg} (hH : HRep B w0 m hp w) {sz k n : Nat} {v : V} {x : Value} {vs : List V} (hl : srcLen v = some k) (hn : n ≤ k) (hc : srcCells hp sz n v = some vs) (hr : VRel m v x) :
    (∀ w, (Builtin.lenOf x).run P w = .ok k w) ∧ ∃ xs, (Builtin.firstCells sz n x).run P w = .ok ⟨xs⟩ w ∧ VRels m vs xs ∧ vs.length = n * sz := by
  have hv : ∀ (l : List UInt8), VRels m (ofBytes l) (l.map fun b => Value.int .u8 (b.toNat : Int)) := by
    intro l
    induction l with
    | nil => exact .nil
    | cons b r ih => exact .cons (.int _ _) ih
  cases hr <;> simp only [srcLen, Option.some.injEq, reduceCtorEq] at hl
  · rename_i s
    subst hl
    simp only [srcCells] at hc
    split at hc
    case h_2 => simp at hc
    cases hc
    refine ⟨fun w => rfl, (s.take n).map fun b => Value.int .u8 (b.toNat : Int), ?_, hv _, ?_⟩
    · simp only [Builtin.firstCells, Sem.run_pure]
      congr 1
      apply Array.ext'
      rw [Array.toList_map, ByteArray.data_extract]
      simp [List.extract_eq_take_drop]
    · simp [ofBytes]; omega
  · subst hl
    simp only [srcCells, Option.some.injEq] at hc
    subst hc
    obtain rfl : n = 0 := by omega
    exact ⟨fun w => rfl, [], rfl, .nil, by simp⟩
  · rename_i j off len sz' b o1 n1 c cap hm _ _ _
    subst hl
    simp only [srcCells] at hc
    obtain ⟨xs, hv, hxl, hcell⟩ := hH.readL hm hc
    refine ⟨fun w => rfl, xs, ?_, hv, by rw [hv.length, hxl]⟩
    simp only [Builtin.firstCells]
    rw [← hxl]
    exact run_loadCells_list' hcell
  · subst hl
    simp only [srcCells, Option.some.injEq] at hc
    subst hc
    obtain rfl : n = 0 := by omega
    refine ⟨fun w => rfl, [], ?_, .nil, by simp⟩
    simp [Builtin.firstCells, loadCells, loadCellsFrom]

theorem snd_cpy (hH : HRep B w0 m S.hp w) (hF : FRel m N S.tm a.eval) {t e : TypeId} {tys : Array TypeId} {sz : Nat} {x y : Operand} {x' y' : Opd} (hop : o.op = .call ⟨.builtin .copy, #[x, y], tys⟩) (hty : tys[0]? = some t) (hi : o'.i = .cpy sz x' y')
    (hx : okOpd x x' = true) (hy : okOpd y y' = true) (ht : P.underlying t = some (.slice e)) (hsz : tSize P e = some sz) : Snd P Γ B w0 m S o' w (execOp a.eval o) := by
  intro R K hs hK
  simp only [evalI, e_cpy, hi] at hs
  have hxr := ev_rel hF hx
  have hyr := ev_rel hF hy
  generalize ev S.tm x' = xv at hs hxr
  generalize ev S.tm y' = yv at hs hyr
  generalize hxe : a.eval x = xe at hxr
  generalize hye : a.eval y = ye at hyr
  have run : ∀ r w', (Builtin.copy_ tys o.type #[xe, ye]).run P w = .ok r w' → (execOp a.eval o).run P w = .ok (.value r) w' := by
    intro r w' h
    simp [execOp, hop, resolve, invoke, builtin, hxe, hye, h]
  have nothing : ∀ k, srcLen yv = some k → (∃ b c, xe = .slice b 0 c) → (execOp a.eval o).run P w = .ok (.value (.int .i64 0)) w := by
    rintro k hk ⟨b, c, rfl⟩
    have h0 : (Builtin.lenOf ye).run P w = .ok k w ∧ (Builtin.firstCells sz 0 ye).run P w = .ok #[] w := by
      cases hyr <;> simp only [srcLen, Option.some.injEq, reduceCtorEq] at hk
      · subst hk; exact ⟨rfl, by simp [Builtin.firstCells]⟩
      · subst hk; exact ⟨rfl, rfl⟩
      · subst hk; exact ⟨rfl, by simp [Builtin.firstCells, loadCells, loadCellsFrom]⟩
      · subst hk; exact ⟨rfl, by simp [Builtin.firstCells, loadCells, loadCellsFrom]⟩
    refine run _ _ ?_
    cases b with
    | none => simp [Builtin.copy_, hty, run_und ht, h0.1, h0.2, run_size hsz, goInt]
    | some b => simp [Builtin.copy_, hty, run_und ht, h0.1, h0.2, run_size hsz, goInt, storeCells]
  split at hs
  · rename_i n j p q cp sz' hn
    obtain ⟨hzz, new, hnew, hok, cs, hw, hs⟩ := hs
    have hzz := Nat.eq_of_beq_eq_true hzz
    subst hzz
    cases hxr
    rename_i b o1 n1 c hm _ _ _
    obtain ⟨h1, xs, h2, h3, h4⟩ := src_run (P := P) hH hn (Nat.min_le_left _ _) hnew hyr
    obtain ⟨w', hrun, hH'⟩ := hH.write (P := P) hm hw h3 (allOk_one h3 hok)
    refine Does.val (run (.int .i64 (Nat.min n q : Nat)) w' ?_) (hK _ _ _ _ _ _ hs (Mp.le_refl m) (.int _ _) hH')
    simp [Builtin.copy_, hty, run_und ht, h1, run_size hsz, h2, hrun, goInt]
  · exact Does.val (nothing _ (by assumption) (by cases hxr; exact ⟨_, _, rfl⟩)) (hK _ _ _ _ _ _ hs (Mp.le_refl m) (.int _ _) hH)
  · exact Does.val (nothing _ (by assumption) (by cases hxr; exact ⟨_, _, rfl⟩)) (hK _ _ _ _ _ _ hs (Mp.le_refl m) (.int _ _) hH)
  · exact hs.elim

section
variable {t e u ty : TypeId} {d : TypeDesc} {sz bytes n q c : Nat} {zv : Value} {base : Option Addr} {ye : Value}

theorem info_of {ie : TypeInfo} (hi : P.info? e = some ie) (w : World) : (typeInfo e).run P w = .ok ie w := run_info hi w

theorem app_fits (ht : P.underlying t = some (.slice e)) (hu : P.underlying u = some d) (hd : ∀ k, d ≠ .int k) (hsz : tSize P e = some sz) (hl : ∀ w, (Builtin.lenOf ye).run P w = .ok n w) (hc : q + n ≤ c) {xs : List Value}
    (hx : (Builtin.firstCells sz n ye).run P w = .ok ⟨xs⟩ w) :
    (∀ a, base = some a → ∀ w', (storeCells (a.add (q * sz)) xs).run P w = .ok () w' → (Builtin.append_ #[t, u] ty #[.slice base q c, ye]).run P w = .ok (.slice base (q + n) c) w') ∧
    (base = none → (Builtin.append_ #[t, u] ty #[.slice base q c, ye]).run P w = .ok (.slice base (q + n) c) w) := by
  constructor
  · rintro a rfl w' hs
    simp [Builtin.append_, run_und ht, run_size hsz, run_und hu, hl, hc, hx, hs]
  · rintro rfl
    simp [Builtin.append_, run_und ht, run_size hsz, run_und hu, hl, hc, hx]

theorem app_grows (ht : P.underlying t = some (.slice e)) (hu : P.underlying u = some d) (hd : ∀ k, d ≠ .int k) (hsz : tSize P e = some sz) {ie : TypeInfo} (hi : P.info? e = some ie) (hb : ie.bytes = bytes) (hz : tZero P e = some zv) (hb0 : bytes ≠ 0)
    (hl : ∀ w, (Builtin.lenOf ye).run P w = .ok n w) (hc : c < q + n) (hbound : (q + n) * bytes ≤ 140737488355328) {xs old : List Value}
    (hx : (Builtin.firstCells sz n ye).run P w.drew = .ok ⟨xs⟩ w.drew) (ho : (Builtin.firstCells sz q (.slice base q c)).run P w.drew = .ok ⟨old⟩ w.drew) :
    ∃ nc rest, q + n ≤ nc ∧ rest = Builtin.zeroCells zv.cells (nc - (q + n)) ∧ (Builtin.append_ #[t, u] ty #[.slice base q c, ye]).run P w = .ok (.slice (some ⟨w.heap.size, 0, none⟩) (q + n) nc) (w.drew.alloc (.cells (⟨old⟩ ++ (⟨xs⟩ ++ rest)) e)) := by
  have hgrow := growslice_fits (bytes := bytes) hc hbound
  refine ⟨(Question.appendCap (q + n) c e).cut (w.tape w.drawn (Question.appendCap (q + n) c e)), _, by simp [Question.cut], rfl, ?_⟩
  subst hb
  have h1 : ¬ (q + n ≤ c) := by omega
  have h2 : ¬ (281474976710656 < Builtin.nextslicecap (q + n) c * ie.bytes) := by omega
  simp [Builtin.append_, run_und ht, run_size hsz, run_und hu, hl, h1, run_info hi, run_zero hz, h2, hb0, hx, ho, newRow, Question.forced]
end

theorem zeroCells_size (z : Array Value) (k : Nat) : (Builtin.zeroCells z k).size = k * z.size := by simp [Builtin.zeroCells]

theorem snd_app (hH : HRep B w0 m S.hp w) (hF : FRel m N S.tm a.eval) {t e u : TypeId} {d : TypeDesc} {sz bytes : Nat} {zv : Value} {x y : Operand} {x' y' : Opd} (hop : o.op = .call ⟨.builtin .append, #[x, y], #[t, u]⟩) (hi : o'.i = .app sz bytes x' y')
    (hx : okOpd x x' = true) (hy : okOpd y y' = true) (ht : P.underlying t = some (.slice e)) (hu : P.underlying u = some d) (hd : ∀ k, d ≠ .int k) (hsz : tSize P e = some sz) (hb : tBytes P e = some bytes) (hz : tZero P e = some zv)
    (hb0 : bytes ≠ 0) (hzs : zv.cells.size = sz) : Snd P Γ B w0 m S o' w (execOp a.eval o) := by
  intro R K hs hK
  simp only [evalI, e_app, hi] at hs
  have hxr := ev_rel hF hx
  have hyr := ev_rel hF hy
  generalize ev S.tm x' = xv at hs hxr
  generalize ev S.tm y' = yv at hs hyr
  generalize hxe : a.eval x = xe at hxr
  generalize hye : a.eval y = ye at hyr
  have run : ∀ r w', (Builtin.append_ #[t, u] o.type #[xe, ye]).run P w = .ok r w' → (execOp a.eval o).run P w = .ok (.value r) w' := by
    intro r w' h
    simp [execOp, hop, resolve, invoke, builtin, hxe, hye, h]
  cases hn : srcLen yv with
  | none => rw [hn] at hs; exact hs.elim
  | some n =>
    rw [hn] at hs
    obtain ⟨new, hnew, hok, hs⟩ := hs
    have hnew := hnew
    cases hie : P.info? e with
    | none => simp [tBytes, hie] at hb
    | some ie =>
      have hbe : ie.bytes = bytes := by simpa [tBytes, hie] using hb
      obtain ⟨hl, xs, h2, h3, h4⟩ := src_run (P := P) hH hn (Nat.le_refl _) hnew hyr
      obtain ⟨_, xs', h2', h3', h4'⟩ := src_run (P := P) hH.drew hn (Nat.le_refl _) hnew hyr
      have hlen := h3.length
      have hlen' := h3'.length
      split at hs
      · -- a nil destination
        obtain ⟨hbound, h0, h1⟩ := hs
        have hbound := of_decide_eq_true hbound
        cases hxr
        by_cases e0 : n = 0
        · subst e0
          have := h0 rfl
          exact Does.val (run _ _ ((app_fits (base := none) (q := 0) (c := 0) ht hu hd hsz hl (by omega) h2).2 rfl)) (hK _ _ _ _ _ _ this (Mp.le_refl m) .nils hH)
        · obtain ⟨j, nx', hj, hs⟩ := fresh_sat (h1 (by cases hq : Nat.beq n 0; rfl; exact absurd (Nat.eq_of_beq_eq_true hq) e0))
          obtain ⟨nc, rest, hnc, hrest, hrun⟩ := app_grows (base := none) (q := 0) (c := 0) (old := []) ht hu hd hsz hie hbe hz hb0 hl (by omega) (by simpa using hbound) h2' rfl
          have hal := (hH.drew).alloc (w := { w with drawn := w.drawn + 1 }) hj (c := (⟨[]⟩ ++ (⟨xs'⟩ ++ rest))) (el := e) (fr := (0, 0)) h3' (fun i x hx => by
            have hi : i < xs'.length := by
              rcases Nat.lt_or_ge i xs'.length with h | h
              · exact h
              · rw [List.getElem?_eq_none h] at hx; simp at hx
            simp
            rw [Array.getElem?_append_left (by simpa using hi)]
            simpa using hx) (fun i _ => by omega)
          refine Does.val (run _ _ hrun) (hK _ _ _ _ _ _ hs (Mp.le_upd (hH.noKey hj)) ?_ hal)
          rw [Nat.zero_add] at hnc ⊢
          refine .sl (o := 0) Mp.upd_self hnc (fun c0 e => by simp at e) ?_
          rw [hrest]
          simp only [Array.size_append, zeroCells_size, hzs, List.size_toArray, List.length_nil]
          rw [Nat.zero_add, Nat.zero_add, ← hlen', h4', ← Nat.add_mul]
          exact Nat.mul_le_mul_right _ (by omega)
      · rename_i j p q cp sz'
        obtain ⟨hcond, hs⟩ := hs
        obtain ⟨hbound, rfl, rfl⟩ := of_decide_eq_true hcond
        obtain ⟨j', nx', hj', hs⟩ := fresh_sat hs
        split at hs
        case h_2 => exact hs.elim
        rename_i cells hj
        obtain ⟨hle, cs, hcs, hs⟩ := hs
        have hle := Nat.le_of_ble_eq_true hle
        cases hcs
        cases hxr
        rename_i b o1 n1 c hm hqc hcap hext
        have hne : j ≠ j' := fun e => by rw [e, hj'] at hj; simp at hj
        rcases hH.reg j _ b o1 n1 hj hm with hd | ⟨ca, el, fr, ys, hbk, hvv, hxx, hown⟩
        · simp at hd
        obtain ⟨rfl, rfl, hB, hfr⟩ := hown rfl
        by_cases hfit : q + n ≤ c
        · -- in its place
          have hsz2 : (q + n) * sz ≤ c * sz := Nat.mul_le_mul_right _ hfit
          have hadd : (q + n) * sz = q * sz + n * sz := Nat.add_mul _ _ _
          have hc1 := hH.recell hm (cells' := cells.take (q * sz) ++ List.replicate (n * sz) .un) hj (by simp; omega) (fun i v hv => by
            by_cases h : i < q * sz
            · rw [List.getElem?_append_left (by simp; omega), List.getElem?_take, if_pos h] at hv
              exact .inl hv
            · rw [List.getElem?_append_right (by simp; omega)] at hv
              exact .inr (List.eq_of_mem_replicate (List.mem_of_getElem? hv)))
          have hwr : AE.write (S.hp.set j (some ⟨cells.take (q * sz) ++ List.replicate (n * sz) .un, .own⟩)) j (q * sz) new = some (cells.take (q * sz) ++ new) := by
            unfold AE.write
            rw [Tr.get_set, if_pos rfl]
            simp only
            rw [if_pos (by simp; omega)]
            unfold splice
            congr 1
            rw [List.take_append_of_le_length (by simp; omega), List.take_take, Nat.min_self, List.drop_eq_nil_of_le (by simp; omega), List.append_nil]
          obtain ⟨w', hrun, hH'⟩ := hc1.write (P := P) hm hwr h3 (allOk_one h3 hok)
          rw [Tr.set_set] at hH'
          have hr2 := hH'.rename hm (j' := j') (by rw [Tr.get_set, if_pos rfl]) (by rw [Tr.get_set, if_neg (fun e => hne e.symm)]; exact hj')
          rw [Tr.set_set] at hr2
          have hap := (app_fits (P := P) (ty := o.type) (base := some ⟨b, 0 + 0, none⟩) (q := q) (c := c) ht hu hd hsz hl hfit h2).1 _ rfl w' (by rw [addr_add]; simpa using hrun)
          refine Does.val (run _ _ hap) (hK _ _ _ _ _ _ hs (Mp.le_upd (hH.noKey hj')) ?_ hr2)
          exact .sl (o := 0) Mp.upd_self hfit (fun c0 e => by simp at e) (by omega)
        · -- a new row
          have hrd : AE.readL S.hp j 0 (q * sz) = some (cells.take (q * sz)) := by
            unfold AE.readL
            rw [hj]
            simp only
            rw [if_pos (by omega)]
            simp
          obtain ⟨os, hos, hosl, hcell⟩ := (hH.drew).readL hm hrd
          have hold : (Builtin.firstCells sz q (.slice (some ⟨b, 0 + 0, none⟩) q c)).run P w.drew = .ok ⟨os⟩ w.drew := by
            simp only [Builtin.firstCells]
            rw [← hosl]
            exact run_loadCells_list' hcell
          obtain ⟨nc, rest, hnc, hrest, hrun⟩ := app_grows (base := some ⟨b, 0 + 0, none⟩) (q := q) (c := c) ht hu hd hsz hie hbe hz hb0 hl (by omega) hbound h2' hold
          have hk := (hH.drew).kill hj
          have hal := hk.alloc (w := { w with drawn := w.drawn + 1 }) (j := j') (by rw [Tr.get_set, if_neg (fun e => hne e.symm)]; exact hj') (c := (⟨os⟩ ++ (⟨xs'⟩ ++ rest))) (el := e) (fr := (0, 0)) (hos.append h3') (fun i x hx => by
            have hi : i < (os ++ xs').length := by
              rcases Nat.lt_or_ge i (os ++ xs').length with h | h
              · exact h
              · rw [List.getElem?_eq_none h] at hx; simp at hx
            rw [← Array.append_assoc, Array.getElem?_append_left (by simpa using hi)]
            simpa using hx) (fun i _ => by omega)
          refine Does.val (run _ _ hrun) (hK _ _ _ _ _ _ hs (Mp.le_upd (hH.noKey hj')) ?_ hal)
          refine .sl (o := 0) Mp.upd_self hnc (fun c0 e => by simp at e) ?_
          rw [hrest]
          simp only [Array.size_append, zeroCells_size, hzs, List.size_toArray]
          rw [hosl, Nat.zero_add, ← hlen', h4', ← Nat.add_mul, ← Nat.add_mul]
          exact Nat.mul_le_mul_right _ (by omega)
      · exact hs.elim
end Go.AE

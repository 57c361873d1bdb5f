/- An abstract evaluator of translated Go code, sixth part: more operations that only compute or read stand for the model's. -/
import Derived.Test.YtmgbeipdeeegoaaGreatDoorAe5
namespace Go.AE
open Go.RowKit

variable {P : Program} {Γ : Tr Ent} {B N : Nat} {w0 : World} {m : Mp} {S : St} {o : Oper} {o' : O} {a : Act} {w : World}

theorem snd_un (hH : HRep B w0 m S.hp w) (hF : FRel m N S.tm a.eval) {op : UnOp} {t : TypeId} {x : Operand} {x' : Opd} (hop : o.op = .unOp op t x) (hi : o'.i = .un op x')
    (hx : okOpd x x' = true) : Snd P Γ B w0 m S o' w (execOp a.eval o) :=
  .pure hH fun R hs => by
    simp only [evalI, e_un, hi] at hs
    have hxr := ev_rel hF hx
    generalize ev S.tm x' = xv at hs hxr
    generalize hxe : a.eval x = xe at hxr
    unfold unE at hs
    split at hs
    · cases hxr; exact ⟨_, _, hs, by simp [execOp, hop, hxe, Op.unary], .bool _⟩
    · cases hxr; exact ⟨_, _, hs, by simp [execOp, hop, hxe, Op.unary, Op.intArith], .int _ _⟩
    · cases hxr; exact ⟨_, _, hs, by simp [execOp, hop, hxe, Op.unary, bitsI_run], .int _ _⟩
    · exact hs.elim

theorem snd_conv (hH : HRep B w0 m S.hp w) (hF : FRel m N S.tm a.eval) {k : IntKind} {s t : TypeId} {x : Operand} {x' : Opd} (hop : o.op = .convert s t x) (hi : o'.i = .conv k x')
    (hx : okOpd x x' = true) {d : TypeDesc} (hs' : P.underlying s = some d) (ht : P.underlying t = some (.int k)) : Snd P Γ B w0 m S o' w (execOp a.eval o) :=
  .pure hH fun R hs => by
    simp only [evalI, e_conv, hi] at hs
    have hxr := ev_rel hF hx
    generalize ev S.tm x' = xv at hs hxr
    generalize hxe : a.eval x = xe at hxr
    split at hs
    · cases hxr
      refine ⟨_, _, hs, ?_, .int _ _⟩
      have : ∀ k1 n, (convert s t (.int k1 n)).run P w = .ok (.int k (k.wrap n)) w := by
        intro k1 n
        unfold convert
        simp only [Sem.run_bind, run_und hs', run_und ht, Result.andThen]
        rfl
      simp only [execOp, hop, hxe, Sem.run_bind, this]; rfl
    · exact hs.elim

theorem snd_lea (hH : HRep B w0 m S.hp w) (hF : FRel m N S.tm a.eval) {off f n : Nat} {s : TypeId} {x : Operand} {x' : Opd} (hop : o.op = .fieldAddr s x f) (hi : o'.i = .lea off x')
    (hx : okOpd x x' = true) {fields : Array Field} {fd : Field} (hs' : P.underlying s = some (.struct fields)) (hf : fields[f]? = some fd) (ho : fd.offset = off) (hn : tSize P fd.type = some n) (hn0 : n ≠ 0) : Snd P Γ B w0 m S o' w (execOp a.eval o) :=
  .pure hH fun R hs => by
    simp only [evalI, e_lea, hi] at hs
    have hxr := ev_rel hF hx
    generalize ev S.tm x' = xv at hs hxr
    generalize hxe : a.eval x = xe at hxr
    split at hs
    · cases hxr
      rename_i j p b o1 n1 hm
      refine ⟨_, .pointer (some ⟨b, o1 + (p + off), none⟩), hs, ?_, .ptr hm⟩
      have e : (Addr.add ⟨b, o1 + p, none⟩ off) = ⟨b, o1 + (p + off), none⟩ := by unfold Addr.add; split <;> simp_all [Nat.add_assoc]
      simp [execOp, hop, hxe, Instr.fieldAt, run_und hs', hf, Instr.sureAddr, fieldPlace, run_size hn, hn0, ho, e]
    · exact hs.elim

theorem addr_add (b o k : Nat) : (Addr.add ⟨b, o, none⟩ k) = ⟨b, o + k, none⟩ := by unfold Addr.add; split <;> simp_all

theorem snd_ixA (hH : HRep B w0 m S.hp w) (hF : FRel m N S.tm a.eval) {n sz : Nat} {t e : TypeId} {x y : Operand} {x' y' : Opd} (hop : o.op = .indexAddr t x y) (hi : o'.i = .ixA n sz x' y')
    (hx : okOpd x x' = true) (hy : okOpd y y' = true) (ht : P.underlying t = some (.array n e)) (hz : tSize P e = some sz) : Snd P Γ B w0 m S o' w (execOp a.eval o) :=
  .pure hH fun R hs => by
    simp only [evalI, e_ixA, hi] at hs
    have hxr := ev_rel hF hx
    have hyr := ev_rel hF hy
    generalize ev S.tm x' = xv at hs hxr
    generalize ev S.tm y' = yv at hs hyr
    generalize hxe : a.eval x = xe at hxr
    generalize hye : a.eval y = ye at hyr
    split at hs
    · obtain ⟨hb, hs⟩ := hs
      have hb := of_decide_eq_true hb
      cases hxr; cases hyr
      refine ⟨_, _, hs, ?_, .ptr (by assumption)⟩
      simp [execOp, hop, hxe, hye, Instr.indexAt, run_und ht, asIntOf, Instr.sureAddr, hb.1, hb.2, run_size hz, addr_add, Nat.add_assoc]
    · exact hs.elim

theorem snd_ixS (hH : HRep B w0 m S.hp w) (hF : FRel m N S.tm a.eval) {sz : Nat} {t e : TypeId} {x y : Operand} {x' y' : Opd} (hop : o.op = .indexAddr t x y) (hi : o'.i = .ixS sz x' y')
    (hx : okOpd x x' = true) (hy : okOpd y y' = true) (ht : P.underlying t = some (.slice e)) (hz : tSize P e = some sz) : Snd P Γ B w0 m S o' w (execOp a.eval o) :=
  .pure hH fun R hs => by
    simp only [evalI, e_ixS, hi] at hs
    have hxr := ev_rel hF hx
    have hyr := ev_rel hF hy
    generalize ev S.tm x' = xv at hs hxr
    generalize ev S.tm y' = yv at hs hyr
    generalize hxe : a.eval x = xe at hxr
    generalize hye : a.eval y = ye at hyr
    split at hs
    · obtain ⟨hzz, hb, hs⟩ := hs
      have hb := of_decide_eq_true hb
      cases hxr; cases hyr
      refine ⟨_, _, hs, ?_, .ptr (by assumption)⟩
      simp [execOp, hop, hxe, hye, Instr.indexAt, run_und ht, asIntOf, hb.1, hb.2, run_size hz, addr_add, Nat.add_assoc]
    · exact hs.elim

theorem run_part_one {t : TypeId} (ht : tAgg P t = some false) {cs : Array Value} {i : Nat} {v : Value} (h : cs[i]? = some v) : (part t cs i).run P w = .ok v w := by
  simp [part, run_agg ht, h]
theorem run_part_agg {t : TypeId} (ht : tAgg P t = some true) {cs : Array Value} {i n : Nat} (hn : tSize P t = some n) : (part t cs i).run P w = .ok (.agg (cs.extract i (i + n))) w := by
  simp [part, run_agg ht, run_size hn]

theorem part_agg_rel {vs : List V} {xs : List Value} (h : VRels m vs xs) (i n : Nat) : VRel m (.agg ((vs.drop i).take n)) (.agg ((Array.mk xs).extract i (i + n))) := by
  have : (Array.mk xs).extract i (i + n) = ⟨(xs.drop i).take n⟩ := by
    apply Array.ext'
    simp [List.extract_eq_take_drop]
  rw [this]
  exact .agg ((h.drop i).take n)

theorem snd_ixV (hH : HRep B w0 m S.hp w) (hF : FRel m N S.tm a.eval) {n sz : Nat} {ag : Bool} {t e : TypeId} {x y : Operand} {x' y' : Opd} (hop : o.op = .index t x y) (hi : o'.i = .ixV n sz ag x' y')
    (hx : okOpd x x' = true) (hy : okOpd y y' = true) (ht : P.underlying t = some (.array n e)) (hz : tSize P e = some sz) (ha : tAgg P e = some ag) : Snd P Γ B w0 m S o' w (execOp a.eval o) :=
  .pure hH fun R hs => by
    simp only [evalI, e_ixV, hi] at hs
    have hxr := ev_rel hF hx
    have hyr := ev_rel hF hy
    generalize ev S.tm x' = xv at hs hxr
    generalize ev S.tm y' = yv at hs hyr
    generalize hxe : a.eval x = xe at hxr
    generalize hye : a.eval y = ye at hyr
    split at hs
    · obtain ⟨hb, hs⟩ := hs
      have hb := of_decide_eq_true hb
      cases hxr; cases hyr
      rename_i xs hr
      cases ag with
      | true => exact ⟨_, _, hs, by simp [execOp, hop, hxe, hye, Instr.index, run_und ht, asIntOf, hb.1, hb.2, run_size hz, run_part_agg ha hz], part_agg_rel hr _ _⟩
      | false =>
        obtain ⟨v, hv, hs⟩ := hs
        obtain ⟨x, hx, hvx⟩ := hr.at_ _ hv
        exact ⟨_, _, hs, by simp [execOp, hop, hxe, hye, Instr.index, run_und ht, asIntOf, hb.1, hb.2, run_size hz, run_part_one (cs := ⟨xs⟩) ha (by simpa using hx)], hvx⟩
    · exact hs.elim

theorem snd_ixStr (hH : HRep B w0 m S.hp w) (hF : FRel m N S.tm a.eval) {t : TypeId} {x y : Operand} {x' y' : Opd} (hop : o.op = .index t x y) (hi : o'.i = .ixStr x' y')
    (hx : okOpd x x' = true) (hy : okOpd y y' = true) (ht : P.underlying t = some .string) : Snd P Γ B w0 m S o' w (execOp a.eval o) :=
  .pure hH fun R hs => by
    simp only [evalI, e_ixStr, hi] at hs
    have hxr := ev_rel hF hx
    have hyr := ev_rel hF hy
    generalize ev S.tm x' = xv at hs hxr
    generalize ev S.tm y' = yv at hs hyr
    generalize hxe : a.eval x = xe at hxr
    generalize hye : a.eval y = ye at hyr
    split at hs
    · rename_i s k i
      obtain ⟨hb, v, hv, hs⟩ := hs
      have hb := of_decide_eq_true hb
      cases hxr; cases hyr
      cases hg : s[i.toNat]? with
      | none => rw [hg] at hv; simp at hv
      | some c =>
        rw [hg] at hv; cases hv
        have hl : i.toNat < s.length := by rcases Nat.lt_or_ge i.toNat s.length with h | h; exact h; rw [List.getElem?_eq_none h] at hg; simp at hg
        have e : (if 0 ≤ i then (ByteArray.mk ⟨s⟩)[i.toNat]? else none) = some c := by
          rw [if_pos hb]
          have hl' : i.toNat < (ByteArray.mk ⟨s⟩).size := hl
          rw [getElem?_pos (ByteArray.mk ⟨s⟩) i.toNat hl']
          rw [List.getElem?_eq_getElem hl] at hg
          exact hg
        exact ⟨_, _, hs, by simp only [execOp, hop, hxe, hye, Instr.index, Sem.run_bind, run_und ht, asIntOf, Sem.run_pure, Result.andThen, e], .int _ _⟩
    · exact hs.elim

theorem snd_fld (hH : HRep B w0 m S.hp w) (hF : FRel m N S.tm a.eval) {off sz f : Nat} {ag : Bool} {t : TypeId} {x : Operand} {x' : Opd} (hop : o.op = .field t x f) (hi : o'.i = .fld off sz ag x')
    (hx : okOpd x x' = true) {fields : Array Field} {fd : Field} (hs' : P.underlying t = some (.struct fields)) (hf : fields[f]? = some fd) (ho : fd.offset = off) (hz : tSize P fd.type = some sz) (ha : tAgg P fd.type = some ag) : Snd P Γ B w0 m S o' w (execOp a.eval o) :=
  .pure hH fun R hs => by
    simp only [evalI, e_fld, hi] at hs
    have hxr := ev_rel hF hx
    generalize ev S.tm x' = xv at hs hxr
    generalize hxe : a.eval x = xe at hxr
    split at hs
    · cases hxr
      rename_i vs xs hr
      cases ag with
      | true => exact ⟨_, _, hs, by simp [execOp, hop, hxe, Instr.field, run_und hs', hf, asAgg, run_part_agg ha hz, ho], part_agg_rel hr _ _⟩
      | false =>
        obtain ⟨v, hv, hs⟩ := hs
        obtain ⟨x, hx, hvx⟩ := hr.at_ _ hv
        exact ⟨_, _, hs, by simp [execOp, hop, hxe, Instr.field, run_und hs', hf, asAgg, run_part_one (cs := ⟨xs⟩) (i := fd.offset) ha (by rw [ho]; simpa using hx)], hvx⟩
    · exact hs.elim

theorem snd_nilc (hH : HRep B w0 m S.hp w) (hF : FRel m N S.tm a.eval) {x : Operand} {x' : Opd} (hop : o.op = .nilCheck x) (hi : o'.i = .nilc x')
    (hx : okOpd x x' = true) : Snd P Γ B w0 m S o' w (execOp a.eval o) :=
  .pure hH fun R hs => by
    simp only [evalI, e_nilc, hi] at hs
    have hxr := ev_rel hF hx
    generalize ev S.tm x' = xv at hs hxr
    generalize hxe : a.eval x = xe at hxr
    split at hs
    · cases hxr; rename_i hm; exact ⟨_, _, hs, by simp [execOp, hop, hxe], .ptr hm⟩
    · cases hxr; rename_i hm; exact ⟨_, _, hs, by simp [execOp, hop, hxe], .fn hm⟩
    · cases hxr; rename_i hm; exact ⟨_, _, hs, by simp [execOp, hop, hxe], .iface hm⟩
    · exact hs.elim

theorem snd_ext (hH : HRep B w0 m S.hp w) (hF : FRel m N S.tm a.eval) {n : Nat} {x : Operand} {x' : Opd} (hop : o.op = .extract x n) (hi : o'.i = .ext n x')
    (hx : okOpd x x' = true) : Snd P Γ B w0 m S o' w (execOp a.eval o) :=
  .pure hH fun R hs => by
    simp only [evalI, e_ext, hi] at hs
    have hxr := ev_rel hF hx
    generalize ev S.tm x' = xv at hs hxr
    generalize hxe : a.eval x = xe at hxr
    split at hs
    · cases hxr
      rename_i vs xs hr
      obtain ⟨v, hv, hs⟩ := hs
      obtain ⟨x, hx, hvx⟩ := hr.at_ _ hv
      exact ⟨_, _, hs, by simp [execOp, hop, hxe, Instr.extract, hx], hvx⟩
    · exact hs.elim

theorem run_loadCells_list' {b o : Nat} {xs : List Value} (h : ∀ (i : Nat) (x : Value), xs[i]? = some x → w.cell? ⟨b, o + i, none⟩ = some x) : (loadCells ⟨b, o, none⟩ xs.length).run P w = .ok ⟨xs⟩ w :=
  run_loadCells_list w ⟨b, o, none⟩ xs fun j v hj => by rw [addr_add]; exact h j v hj

theorem snd_load (hH : HRep B w0 m S.hp w) (hF : FRel m N S.tm a.eval) {sz : Nat} {ag : Bool} {t : TypeId} {x : Operand} {x' : Opd} (hop : o.op = .load t x) (hi : o'.i = .load ag sz x')
    (hx : okOpd x x' = true) (ha : tAgg P t = some ag) (hz : tSize P t = some sz) : Snd P Γ B w0 m S o' w (execOp a.eval o) :=
  .pure hH fun R hs => by
    simp only [evalI, e_load, hi] at hs
    have hxr := ev_rel hF hx
    generalize ev S.tm x' = xv at hs hxr
    generalize hxe : a.eval x = xe at hxr
    split at hs
    · cases hxr
      rename_i j p b o1 n1 hm
      cases ag with
      | true =>
        obtain ⟨cs, hc, hs⟩ := hs
        obtain ⟨xs, hv, hl, hcell⟩ := hH.readL hm hc
        subst hl
        exact ⟨_, _, hs, by simp [execOp, hop, hxe, Instr.loadAt, Instr.sureAddr, loadVar, run_agg ha, run_size hz, run_loadCells_list' hcell], .agg hv⟩
      | false =>
        obtain ⟨v, hc, hs⟩ := hs
        obtain ⟨x, hcell, hv⟩ := hH.read1 hm hc
        exact ⟨_, _, hs, by simp [execOp, hop, hxe, Instr.loadAt, Instr.sureAddr, loadVar, run_agg ha, hcell], hv⟩
    · exact hs.elim

theorem snd_mkif (hH : HRep B w0 m S.hp w) (hF : FRel m N S.tm a.eval) {t : TypeId} {x : Operand} {x' : Opd} (hop : o.op = .makeInterface t x) (hi : o'.i = .mkif t x')
    (hx : okOpd x x' = true) {d : TypeDesc} (ht : P.underlying t = some d) (hd : ∀ e, d ≠ .interface e) : Snd P Γ B w0 m S o' w (execOp a.eval o) :=
  .pure hH fun R hs => by
    simp only [evalI, e_mkif, hi] at hs
    refine ⟨_, _, hs, ?_, .iface (ev_rel hF hx)⟩
    have : (Instr.makeInterface t (a.eval x)).run P w = .ok (.iface t (a.eval x)) w := by
      unfold Instr.makeInterface
      simp only [Sem.run_bind, run_und ht, Result.andThen]
      first
        | rfl
        | (split
           · exact absurd rfl (hd _)
           · rfl)
    simp [execOp, hop, this]

theorem snd_mkfn (hH : HRep B w0 m S.hp w) (hF : FRel m N S.tm a.eval) {f : FuncId} {p : P2} {first caught : Array Operand} {ys : List Opd} (hop : o.op = .makeFunc (.func f) first caught) (hi : o'.i = .mkfn p ys)
    (hf : f = p.toNat) (hfi : first = #[]) (hy : okOpds caught.toList ys = true) : Snd P Γ B w0 m S o' w (execOp a.eval o) :=
  .pure hH fun R hs => by
    simp only [evalI, e_mkfn, hi] at hs
    subst hfi hf
    refine ⟨_, .func (.func p.toNat) #[] ⟨caught.toList.map a.eval⟩, hs, ?_, .fn (evs_rel hF hy)⟩
    have : caught.map a.eval = ⟨caught.toList.map a.eval⟩ := by apply Array.ext'; simp
    simp [execOp, hop, Instr.makeFunc, this]
end Go.AE

/- An abstract evaluator of translated Go code, seventh part: bounds, lengths, builds, memory. -/
import Derived.Test.YtmgbeipdeeegoaaGreatDoorAe6
import Derived.Laws.BytesString
import Derived.Laws.StructEq
import Derived.ChangeKeysEq
namespace Go.AE
open Go.RowKit

variable {P : Program} {Γ : Tr Ent} {B N : Nat} {w0 : World} {m : Mp} {S : St} {o : Oper} {o' : O} {a : Act} {w : World}

theorem run_sliceBound {k : IntKind} {i : Int} {y : Nat} {code : BoundsCode} (h : 0 ≤ i ∧ i ≤ (y : Int)) (w : World) : (Instr.sliceBound (.int k i) y code).run P w = .ok i.toNat w := by
  simp [Instr.sliceBound, asIntOf, h.1, h.2]

theorem bounds_run (hF : FRel m N S.tm a.eval) {isSlice : Bool} {len most cap : Nat} {lo hi : Option Operand} {lo' hi' : Option Opd} {k : Nat → Nat → E} {hp : Tr Reg} {nx : P2} {adv : Bool} {R : V → Tr Reg → P2 → Prop}
    (hlo : okOpdO lo lo' = true) (hhi : okOpdO hi hi' = true) (hb : (bounds S.tm len most lo' hi' k).sat hp nx adv R) (hm : most ≤ cap) (hl : len ≤ most) :
    ∃ l h, l ≤ h ∧ h ≤ most ∧ (k l h).sat hp nx adv R ∧ (lo' = none → l = 0) ∧ (∀ w, (Instr.sliceBounds isSlice len cap (lo.map a.eval) (hi.map a.eval) none).run P w = .ok (l, h, cap) w) := by
  have low : ∀ h : Nat, (∀ hs, hs = (match lo' with
      | none => k 0 h
      | some x => match ev S.tm x with | .int _ l => E.need (decide (0 ≤ l ∧ l ≤ (h : Int))) (k l.toNat h) | _ => .fail) → hs.sat hp nx adv R →
      ∃ l, l ≤ h ∧ (k l h).sat hp nx adv R ∧ (lo' = none → l = 0) ∧ ∀ w code, (match lo.map a.eval with | some v => Instr.sliceBound v h code | none => pure 0 : Sem Nat).run P w = .ok l w) := by
    intro h hs hse hsat
    cases lo' with
    | none =>
      cases lo with
      | some _ => simp [okOpdO] at hlo
      | none => subst hse; exact ⟨0, Nat.zero_le _, hsat, fun _ => rfl, fun _ _ => rfl⟩
    | some x' =>
      cases lo with
      | none => simp [okOpdO] at hlo
      | some x =>
        have hxr := ev_rel hF (show okOpd x x' = true from hlo)
        simp only at hse
        generalize ev S.tm x' = xv at hse hxr
        generalize hxe : a.eval x = xe at hxr
        subst hse
        split at hsat
        · cases hxr
          obtain ⟨hb, hsat⟩ := hsat
          have hb := of_decide_eq_true hb
          refine ⟨_, ?_, hsat, fun e => by simp at e, fun w code => ?_⟩
          · omega
          · simp only [Option.map_some, hxe]; exact run_sliceBound hb w
        · exact hsat.elim
  unfold bounds at hb
  cases hi' with
  | none =>
    cases hi with
    | some _ => simp [okOpdO] at hhi
    | none =>
      obtain ⟨l, h1, h2, h3, h4⟩ := low len _ rfl hb
      refine ⟨l, len, h1, hl, h2, h3, fun w => ?_⟩
      simp only [Instr.sliceBounds, Option.map_none, Sem.run_bind, Sem.run_pure, Result.andThen]
      have := h4 w (if (none : Option Value).isSome = true then .slice3C else .sliceB)
      cases hlm : Option.map a.eval lo with
      | none => rw [hlm] at this; simp only at this ⊢; cases this; rfl
      | some v => rw [hlm] at this; simp only at this ⊢; simp only [Sem.run_bind, this, Result.andThen, Sem.run_pure]
  | some y' =>
    cases hi with
    | none => simp [okOpdO] at hhi
    | some y =>
      have hyr := ev_rel hF (show okOpd y y' = true from hhi)
      simp only at hb
      generalize ev S.tm y' = yv at hb hyr
      generalize hye : a.eval y = ye at hyr
      split at hb
      · cases hyr
        rename_i kd h
        obtain ⟨hh, hb⟩ := hb
        have hh := of_decide_eq_true hh
        obtain ⟨l, h1, h2, h3, h4⟩ := low h.toNat _ rfl hb
        refine ⟨l, h.toNat, h1, by omega, h2, h3, fun w => ?_⟩
        have hr : ∀ code, (Instr.sliceBound (.int kd h) cap code).run P w = .ok h.toNat w := fun code => run_sliceBound ⟨hh.1, by omega⟩ w
        simp only [Instr.sliceBounds, Option.map_some, hye, Sem.run_bind, Sem.run_pure, Result.andThen, hr]
        have := h4 w (if (none : Option Value).isSome = true then .slice3C else .sliceB)
        cases hlm : Option.map a.eval lo with
        | none => rw [hlm] at this; simp only at this ⊢; cases this; rfl
        | some v => rw [hlm] at this; simp only at this ⊢; simp only [Sem.run_bind, this, Result.andThen, Sem.run_pure]
      · exact hb.elim

theorem snd_slStr (hH : HRep B w0 m S.hp w) (hF : FRel m N S.tm a.eval) {t : TypeId} {x : Operand} {x' : Opd} {lo hi : Option Operand} {lo' hi' : Option Opd} (hop : o.op = .slice t x lo hi none) (hi0 : o'.i = .slStr x' lo' hi')
    (hx : okOpd x x' = true) (hlo : okOpdO lo lo' = true) (hhi : okOpdO hi hi' = true) (ht : P.underlying t = some .string) : Snd P Γ B w0 m S o' w (execOp a.eval o) :=
  .pure hH fun R hs => by
    simp only [evalI, e_slStr, hi0] at hs
    have hxr := ev_rel hF hx
    generalize ev S.tm x' = xv at hs hxr
    generalize hxe : a.eval x = xe at hxr
    split at hs
    · rename_i s
      cases hxr
      obtain ⟨l, h, h1, h2, h3, h4, hr⟩ := bounds_run (P := P) (isSlice := false) hF hlo hhi hs (Nat.le_refl _) (Nat.le_refl _)
      have e : (ByteArray.mk ⟨s⟩).extract l h = ⟨⟨(s.drop l).take (h - l)⟩⟩ := by
        apply ByteArray.ext
        rw [ByteArray.data_extract]
        apply Array.ext'
        simp [List.extract_eq_take_drop]
      refine ⟨_, _, h3, ?_, .str _⟩
      have hr' := hr w
      simp only [execOp, hop, hxe, Option.map_none, Instr.sliceAt, Instr.slice, Sem.run_bind, run_und ht, Result.andThen, Option.isSome_none, Bool.false_eq_true, if_false, Sem.run_pure]
      show ((Sem.run P (Instr.sliceBounds false s.length s.length (lo.map a.eval) (hi.map a.eval) none) w).andThen _).andThen _ = _
      rw [hr']
      simp only [Result.andThen, e]
    · exact hs.elim

theorem run_slice_slice {t e : TypeId} (ht : P.underlying t = some (.slice e)) {sz : Nat} (hz : tSize P e = some sz) {base : Option Addr} {n c l h : Nat} {lo hi : Option Value} (hr : ∀ w, (Instr.sliceBounds true n c lo hi none).run P w = .ok (l, h, c) w) (w : World) :
    (Instr.sliceAt t (.slice base n c) lo hi none).run P w = .ok (.slice (if c = l then base else base.map (·.add (l * sz))) (h - l) (c - l)) w := by
  simp only [Instr.sliceAt, Instr.slice, Sem.run_bind, run_und ht, Result.andThen, hr, run_size hz]
  rfl

theorem cells_le (h : HRep B w0 m S.hp w) {j : P2} {cells : List V} {b o n : Nat} (hj : S.hp.get j = some ⟨cells, .own⟩) (hm : m j = some (b, o, n)) : cells.length ≤ n := by
  rcases h.reg j _ b o n hj hm with hd | ⟨c, el, fr, xs, hb, hv, hx, hown⟩
  · simp at hd
  · obtain ⟨rfl, rfl, _, _⟩ := hown rfl
    have hl := hv.length
    simp only at hl
    rw [hl]
    rcases Nat.lt_or_ge c.size xs.length with hlt | hge
    · have hq := hx c.size xs[c.size] (by simp [hlt])
      simp at hq
    · exact hge

theorem snd_slSl (hH : HRep B w0 m S.hp w) (hF : FRel m N S.tm a.eval) {sz : Nat} {t e : TypeId} {x : Operand} {x' : Opd} {lo hi : Option Operand} {lo' hi' : Option Opd} (hop : o.op = .slice t x lo hi none) (hi0 : o'.i = .slSl sz x' lo' hi')
    (hx : okOpd x x' = true) (hlo : okOpdO lo lo' = true) (hhi : okOpdO hi hi' = true) (ht : P.underlying t = some (.slice e)) (hz : tSize P e = some sz) : Snd P Γ B w0 m S o' w (execOp a.eval o) :=
  .pure hH fun R hs => by
    simp only [evalI, e_slSl, hi0] at hs
    have hxr := ev_rel hF hx
    generalize ev S.tm x' = xv at hs hxr
    generalize hxe : a.eval x = xe at hxr
    split at hs
    · rename_i j p n cp sz'
      obtain ⟨hzz, hs⟩ := hs
      have hzz := Nat.eq_of_beq_eq_true hzz
      subst hzz
      cases hxr
      rename_i b o1 n1 c hm hnc hcap hext
      obtain ⟨l, h, h1, h2, h3, h4, hr⟩ := bounds_run (P := P) (isSlice := true) (cap := c) hF hlo hhi hs (by cases cp with | none => simpa using hnc | some c0 => simp [hcap c0 rfl]) (by cases cp with | none => simp | some c0 => simp [← hcap c0 rfl, hnc])
      have hhc : h ≤ c := by cases cp with | none => exact Nat.le_trans h2 hnc | some c0 => simpa [hcap c0 rfl] using h2
      have hrun : (execOp a.eval o).run P w = .ok (.value (.slice (if c = l then some ⟨b, o1 + p, none⟩ else some ⟨b, o1 + (p + l * sz), none⟩) (h - l) (c - l))) w := by
        simp only [execOp, hop, hxe, Option.map_none, Sem.run_bind, run_slice_slice ht hz hr w, Result.andThen, Option.map_some, addr_add, Nat.add_assoc]
        rfl
      split at h3
      · have := h4 (by rfl)
        subst this
        refine ⟨_, .slice (some ⟨b, o1 + p, none⟩) h c, h3, by rw [hrun]; simp, ?_⟩
        exact .sl hm hhc (fun c0 e => hcap c0 e) hext
      · rename_i c0
        have := hcap c0 rfl
        subst this
        obtain ⟨ha, hb⟩ := h3
        by_cases e : c = l
        · subst e
          refine ⟨_, _, ha (Nat.beq_refl _), by rw [hrun, if_pos rfl], ?_⟩
          refine .sl hm (by omega) (fun c0 e => by injection e with e) ?_
          rw [Nat.sub_self]; omega
        · refine ⟨_, _, hb (by cases hq : Nat.beq c l; rfl; exact absurd (Nat.eq_of_beq_eq_true hq) e), by rw [hrun, if_neg e], ?_⟩
          refine .sl hm (by omega) (fun c0 e => by injection e with e) ?_
          have : l * sz + (c - l) * sz = c * sz := by rw [← Nat.add_mul]; congr 1; omega
          omega
      · obtain ⟨ha, hb⟩ := h3
        by_cases e : l < h
        · refine ⟨_, _, ha (Nat.ble_eq_true_of_le e), by rw [hrun, if_neg (by omega)], ?_⟩
          refine .sl hm (by omega) (fun c0 e => by simp at e) ?_
          have : l * sz + (c - l) * sz = c * sz := by rw [← Nat.add_mul]; congr 1; omega
          omega
        · have hlh : l = h := by omega
          subst hlh
          refine ⟨_, _, hb (by cases hq : Nat.blt l l; rfl; exact absurd (Nat.le_of_ble_eq_true hq) (by omega)), hrun, ?_⟩
          rw [Nat.sub_self]
          split <;> exact .sle
    · cases hxr
      obtain ⟨l, h, h1, h2, h3, h4, hr⟩ := bounds_run (P := P) (isSlice := true) (cap := 0) hF hlo hhi hs (Nat.le_refl _) (Nat.le_refl _)
      have hl : l = 0 := by omega
      have hh : h = 0 := by omega
      subst hl hh
      exact ⟨_, _, h3, by simp only [execOp, hop, hxe, Option.map_none, Sem.run_bind, run_slice_slice ht hz hr w, Result.andThen]; rfl, .nils⟩
    · cases hxr
      rename_i ad c
      obtain ⟨l, h, h1, h2, h3, h4, hr⟩ := bounds_run (P := P) (isSlice := true) (cap := c) hF hlo hhi hs (Nat.zero_le _) (Nat.le_refl _)
      have hl : l = 0 := by omega
      have hh : h = 0 := by omega
      subst hl hh
      refine ⟨_, _, h3, by simp only [execOp, hop, hxe, Option.map_none, Sem.run_bind, run_slice_slice ht hz hr w, Result.andThen]; rfl, ?_⟩
      split <;> exact .sle
    · exact hs.elim

theorem snd_slArr (hH : HRep B w0 m S.hp w) (hF : FRel m N S.tm a.eval) {n sz : Nat} {t e : TypeId} {x : Operand} {x' : Opd} {lo hi : Option Operand} {lo' hi' : Option Opd} (hop : o.op = .slice t x lo hi none) (hi0 : o'.i = .slArr n sz x' lo' hi')
    (hx : okOpd x x' = true) (hlo : okOpdO lo lo' = true) (hhi : okOpdO hi hi' = true) (ht : P.underlying t = some (.array n e)) (hz : tSize P e = some sz) : Snd P Γ B w0 m S o' w (execOp a.eval o) :=
  .pure hH fun R hs => by
    simp only [evalI, e_slArr, hi0] at hs
    have hxr := ev_rel hF hx
    generalize ev S.tm x' = xv at hs hxr
    generalize hxe : a.eval x = xe at hxr
    split at hs
    · rename_i j p
      cases hxr
      rename_i b o1 n1 hm
      obtain ⟨l, h, h1, h2, h3, h4, hr⟩ := bounds_run (P := P) (isSlice := false) (cap := n) hF hlo hhi hs (Nat.le_refl _) (Nat.le_refl _)
      have hrun : (execOp a.eval o).run P w = .ok (.value (.slice (if n = l then some ⟨b, o1 + p, none⟩ else some ⟨b, o1 + (p + l * sz), none⟩) (h - l) (n - l))) w := by
        simp only [execOp, hop, hxe, Option.map_none, Instr.sliceAt, Sem.run_bind, run_und ht, Result.andThen, Instr.sureAddr, Sem.run_pure, hr, run_size hz, addr_add, Nat.add_assoc]
        split <;> rfl
      split at h3
      · rename_i cells hj
        obtain ⟨hle, ha, hb⟩ := h3
        have hle := Nat.le_of_ble_eq_true hle
        have hcl := cells_le hH hj hm
        by_cases e : n = l
        · subst e
          refine ⟨_, _, ha (Nat.beq_refl _), by rw [hrun, if_pos rfl], ?_⟩
          refine .sl hm (by omega) (fun c0 e => by injection e with e) ?_
          rw [Nat.sub_self]; omega
        · refine ⟨_, _, hb (by cases hq : Nat.beq n l; rfl; exact absurd (Nat.eq_of_beq_eq_true hq) e), by rw [hrun, if_neg e], ?_⟩
          refine .sl hm (by omega) (fun c0 e => by injection e with e) ?_
          have : l * sz + (n - l) * sz = n * sz := by rw [← Nat.add_mul]; congr 1; omega
          omega
      · exact h3.elim
    · exact hs.elim

theorem snd_len (hH : HRep B w0 m S.hp w) (hF : FRel m N S.tm a.eval) {t e : TypeId} {x : Operand} {x' : Opd} (hop : o.op = .call ⟨.builtin .len, #[x], #[t]⟩) (hi : o'.i = .len x')
    (hx : okOpd x x' = true) (ht : P.underlying t = some (.slice e)) : Snd P Γ B w0 m S o' w (execOp a.eval o) :=
  .pure hH fun R hs => by
    simp only [evalI, e_len, hi] at hs
    have hxr := ev_rel hF hx
    generalize ev S.tm x' = xv at hs hxr
    generalize hxe : a.eval x = xe at hxr
    have key : ∀ base n c, xe = .slice base n c → (execOp a.eval o).run P w = .ok (.value (.int .i64 n)) w := by
      rintro base n c rfl
      simp [execOp, hop, resolve, invoke, builtin, Builtin.len_, hxe, run_und ht, goInt]
    split at hs
    · cases hxr; exact ⟨_, _, hs, key _ _ _ rfl, .int _ _⟩
    · cases hxr; exact ⟨_, _, hs, key _ _ _ rfl, .int _ _⟩
    · cases hxr; exact ⟨_, _, hs, key _ _ _ rfl, .int _ _⟩
    · exact hs.elim

theorem snd_lenS (hH : HRep B w0 m S.hp w) (hF : FRel m N S.tm a.eval) {t : TypeId} {x : Operand} {x' : Opd} (hop : o.op = .call ⟨.builtin .len, #[x], #[t]⟩) (hi : o'.i = .lenS x')
    (hx : okOpd x x' = true) (ht : P.underlying t = some .string) : Snd P Γ B w0 m S o' w (execOp a.eval o) :=
  .pure hH fun R hs => by
    simp only [evalI, e_lenS, hi] at hs
    have hxr := ev_rel hF hx
    generalize ev S.tm x' = xv at hs hxr
    generalize hxe : a.eval x = xe at hxr
    split at hs
    · cases hxr
      exact ⟨_, _, hs, by simp [execOp, hop, resolve, invoke, builtin, Builtin.len_, hxe, run_und ht, goInt]; rfl, .int _ _⟩
    · exact hs.elim

theorem snd_lenA (hH : HRep B w0 m S.hp w) {t e : TypeId} {x : Operand} {n : Int} {k : Nat} (hop : o.op = .call ⟨.builtin .len, #[x], #[t]⟩) (hi : o'.i = .mov (.c (.int .i64 n)))
    (ht : P.underlying t = some (.array k e)) (hn : n = (k : Int)) : Snd P Γ B w0 m S o' w (execOp a.eval o) :=
  .pure hH fun R hs => by
    simp only [evalI, e_mov, hi] at hs
    subst hn
    exact ⟨_, _, hs, by simp [execOp, hop, resolve, invoke, builtin, Builtin.len_, run_und ht, goInt], .int _ _⟩

theorem snd_mm (hH : HRep B w0 m S.hp w) (hF : FRel m N S.tm a.eval) {mx : Bool} {x y : Operand} {x' y' : Opd} {tys : Array TypeId} (hop : o.op = .call ⟨.builtin (match mx with | true => .max | false => .min), #[x, y], tys⟩) (hi : o'.i = .mm mx x' y')
    (hx : okOpd x x' = true) (hy : okOpd y y' = true) : Snd P Γ B w0 m S o' w (execOp a.eval o) :=
  .pure hH fun R hs => by
    simp only [evalI, e_mm, hi] at hs
    have hxr := ev_rel hF hx
    have hyr := ev_rel hF hy
    generalize ev S.tm x' = xv at hs hxr
    generalize ev S.tm y' = yv at hs hyr
    generalize hxe : a.eval x = xe at hxr
    generalize hye : a.eval y = ye at hyr
    split at hs
    · cases hxr; cases hyr
      cases mx
      · exact ⟨_, _, hs, by simp [execOp, hop, resolve, invoke, builtin, Builtin.min_, Builtin.min2, hxe, hye, List.foldlM], .int _ _⟩
      · exact ⟨_, _, hs, by simp [execOp, hop, resolve, invoke, builtin, Builtin.max_, Builtin.max2, hxe, hye, List.foldlM], .int _ _⟩
    · exact hs.elim

theorem toBytes_rel : ∀ {cs : List V} {xs : List Value} {bs : List UInt8}, toBytes cs = some bs → VRels m cs xs → ∃ ns : List Int, xs = ns.map (Value.int .u8) ∧ bs = ns.map fun n => UInt8.ofNat n.toNat
  | [], _, _, h, r => by cases r; simp [toBytes] at h; subst h; exact ⟨[], rfl, rfl⟩
  | v :: cs, _, bs, h, r => by
    cases r with
    | cons a r =>
      unfold toBytes at h
      split at h
      · rename_i e; cases e
      · rename_i n r' e
        cases e
        cases hb : toBytes cs with
        | none => rw [hb] at h; simp at h
        | some b =>
          rw [hb] at h
          simp at h
          subst h
          obtain ⟨ns, rfl, rfl⟩ := toBytes_rel hb r
          cases a
          exact ⟨n :: ns, rfl, rfl⟩
      · simp at h
theorem foldl_push : ∀ (ns : List Int) (r : List UInt8), ns.foldl (fun r n => r.push (UInt8.ofNat n.toNat)) (ByteArray.mk ⟨r⟩) = ⟨⟨r ++ ns.map fun n => UInt8.ofNat n.toNat⟩⟩
  | [], r => by simp
  | n :: ns, r => by
    simp only [List.foldl_cons, List.map_cons]
    rw [show (ByteArray.mk ⟨r⟩).push (UInt8.ofNat n.toNat) = ByteArray.mk ⟨r ++ [UInt8.ofNat n.toNat]⟩ from ByteArray.ext (by show (Array.mk r).push _ = _; simp), foldl_push ns]
    simp

theorem snd_b2s (hH : HRep B w0 m S.hp w) (hF : FRel m N S.tm a.eval) {s t e : TypeId} {x : Operand} {x' : Opd} (hop : o.op = .convert s t x) (hi : o'.i = .b2s x')
    (hx : okOpd x x' = true) (hs' : P.underlying s = some (.slice e)) (ht : P.underlying t = some .string) (he : P.underlying e = some (.int .u8)) : Snd P Γ B w0 m S o' w (execOp a.eval o) :=
  .pure hH fun R hs => by
    simp only [evalI, e_b2s, hi] at hs
    have hxr := ev_rel hF hx
    generalize ev S.tm x' = xv at hs hxr
    generalize hxe : a.eval x = xe at hxr
    have conv : ∀ y s', (∃ b n c, y = .slice b n c) → (Conv.bytesToString y).run P w = .ok (.string s') w → (convert s t y).run P w = .ok (.string s') w := by
      rintro y s' ⟨b, n, c, rfl⟩ h
      unfold convert
      simp only [Sem.run_bind, run_und hs', run_und ht, Result.andThen, run_und he]
      exact h
    have fin : ∀ y s', xe = y → (∃ b n c, y = .slice b n c) → (Conv.bytesToString y).run P w = .ok (.string s') w → (execOp a.eval o).run P w = .ok (.value (.string s')) w := by
      rintro y s' rfl h1 h2
      simp only [execOp, hop, hxe, Sem.run_bind, conv _ _ h1 h2]; rfl
    split at hs
    · cases hxr; exact ⟨_, _, hs, fin _ ⟨⟨[]⟩⟩ rfl ⟨_, _, _, rfl⟩ rfl, .str _⟩
    · cases hxr
      refine ⟨_, _, hs, fin _ ⟨⟨[]⟩⟩ rfl ⟨_, _, _, rfl⟩ ?_, .str _⟩
      simp [Conv.bytesToString, loadCells, loadCellsFrom]
      rfl
    · obtain ⟨v, hv, hs⟩ := hs
      rename_i j off n cap
      cases hr : readL S.hp j off n with
      | none => rw [hr] at hv; simp at hv
      | some cs =>
        rw [hr] at hv
        simp only [Option.bind_some] at hv
        cases hb : toBytes cs with
        | none => rw [hb] at hv; simp at hv
        | some bs =>
          rw [hb] at hv
          cases hv
          cases hxr
          rename_i b o1 n1 c hm _ _ _
          obtain ⟨xs, hxs, hl, hcell⟩ := hH.readL hm hr
          subst hl
          refine ⟨_, _, hs, fin _ ⟨⟨bs⟩⟩ rfl ⟨_, _, _, rfl⟩ ?_, .str _⟩
          obtain ⟨ns, rfl, rfl⟩ := toBytes_rel hb hxs
          rw [run_bytesToString (P := P) w _ _ _ ns (run_loadCells_list' hcell)]
          rw [show ByteArray.empty = ByteArray.mk ⟨[]⟩ from rfl, foldl_push]
          rfl
    · exact hs.elim

theorem und_int {t : TypeId} (h : isInt P t = true) : ∃ k, P.underlying t = some (.int k) := by
  unfold isInt at h; split at h
  · exact ⟨_, by assumption⟩
  · simp at h
theorem und_str {t : TypeId} (h : isStr P t = true) : P.underlying t = some .string := by
  unfold isStr at h; split at h
  · assumption
  · simp at h
theorem und_bool {t : TypeId} (h : isBool P t = true) : P.underlying t = some .bool := by
  unfold isBool at h; split at h
  · assumption
  · simp at h

/-- One cell held against one. -/
theorem eqOne {t : TypeId} {k : CK} {ks : List CK} {v u : V} {vs us : List V} {x y : Value} {r : Bool} (hk : okCK P t k = true) (h : eqCells (k :: ks) (v :: vs) (u :: us) = some r) (hv : VRel m v x) (hu : VRel m u y) (d : Nat) :
    tAgg P t = some false ∧ ∃ q r', (Op.equalIn (d + 1) t x y).run P w = .ok q w ∧ eqCells ks vs us = some r' ∧ r = (q && r') := by
  unfold eqCells at h
  split at h
  · rename_i e _; cases e
  · rename_i e1 e2 e3
    cases e1; cases e2; cases e3; cases hv; cases hu
    obtain ⟨k0, ht⟩ := und_int hk
    refine ⟨by simp [tAgg, ht], ?_⟩
    split at h
    · rename_i h1 h2
      rw [kindEq_iff] at h1; subst h1
      have h2 := of_decide_eq_true h2; subst h2
      exact ⟨true, r, by simp [Op.equalIn, run_und ht], h, rfl⟩
    · rename_i h1 h2
      rw [kindEq_iff] at h1; subst h1
      have h2 := of_decide_eq_false h2
      simp only [Option.map_eq_some_iff] at h
      obtain ⟨r', h, rfl⟩ := h
      exact ⟨false, r', by simp [Op.equalIn, run_und ht, h2], h, rfl⟩
    · simp at h
  · rename_i e1 e2 e3
    cases e1; cases e2; cases e3; cases hv; cases hu
    have ht := und_str hk
    refine ⟨by simp [tAgg, ht], ?_⟩
    split at h
    · rename_i h1
      rw [strEq_iff] at h1; subst h1
      exact ⟨true, r, by rw [run_equalIn_string w d t _ _ ht]; simp, h, rfl⟩
    · rename_i h1
      simp only [Option.map_eq_some_iff] at h
      obtain ⟨r', h, rfl⟩ := h
      refine ⟨false, r', ?_, h, rfl⟩
      rw [run_equalIn_string w d t _ _ ht, bytes_toList, bytes_toList, ← strEq_eq, h1]
  · rename_i e1 e2 e3
    cases e1; cases e2; cases e3; cases hv; cases hu
    have ht := und_bool hk
    refine ⟨by simp [tAgg, ht], ?_⟩
    split at h
    · rename_i h1
      exact ⟨true, r, by rw [boolEq_eq] at h1; simp [Op.equalIn, run_und ht, h1], h, rfl⟩
    · rename_i h1
      simp only [Option.map_eq_some_iff] at h
      obtain ⟨r', h, rfl⟩ := h
      exact ⟨false, r', by rw [boolEq_eq] at h1; simp [Op.equalIn, run_und ht, h1], h, rfl⟩
  · simp at h

theorem eqCells_cons {k : CK} {ks : List CK} {vs us : List V} {r : Bool} (h : eqCells (k :: ks) vs us = some r) : ∃ v vs' u us', vs = v :: vs' ∧ us = u :: us' := by
  cases vs with
  | nil => simp [eqCells] at h
  | cons v vs => cases us with
    | nil => cases k <;> cases v <;> simp [eqCells] at h
    | cons u us => exact ⟨_, _, _, _, rfl, rfl⟩

theorem eqFields_run {d : Nat} {xs ys : Array Value} : ∀ (fs : List Field) (i : Nat) (ks : List CK) (vs us : List V) (r : Bool), okFlat P i fs ks = true → eqCells ks vs us = some r →
    VRels m vs (xs.toList.drop i) → VRels m us (ys.toList.drop i) → (Op.eqFields (d + 1) xs ys fs).run P w = .ok r w
  | [], _, [], vs, us, r, _, h, _, _ => by cases vs <;> cases us <;> simp [eqCells] at h; subst h; rfl
  | [], _, _ :: _, _, _, _, hk, _, _, _ => by simp [okFlat] at hk
  | _ :: _, _, [], _, _, _, hk, _, _, _ => by simp [okFlat] at hk
  | f :: fs, i, k :: ks, vs, us, r, hk, h, hv, hu => by
    simp only [okFlat, Bool.and_eq_true, Bool.not_eq_true'] at hk
    obtain ⟨⟨⟨ho, hn⟩, hc⟩, hk⟩ := hk
    have ho := Nat.eq_of_beq_eq_true ho
    obtain ⟨v, vs', u, us', rfl, rfl⟩ := eqCells_cons h
    cases hx : xs.toList.drop i with
    | nil => rw [hx] at hv; cases hv
    | cons x xr =>
      cases hy : ys.toList.drop i with
      | nil => rw [hy] at hu; cases hu
      | cons y yr =>
        rw [hx] at hv; rw [hy] at hu
        cases hv with
        | cons hv0 hv => cases hu with
          | cons hu0 hu =>
            obtain ⟨ha, q, r', hq, hr, rfl⟩ := eqOne (w := w) hc h hv0 hu0 d
            have ex : xs[i]? = some x := by
              have : (xs.toList.drop i)[0]? = some x := by rw [hx]; rfl
              simpa using this
            have ey : ys[i]? = some y := by
              have : (ys.toList.drop i)[0]? = some y := by rw [hy]; rfl
              simpa using this
            have dx : xs.toList.drop (i + 1) = xr := by have := List.drop_drop (i := 1) (j := i) (l := xs.toList); rw [hx] at this; simpa using this.symm
            have dy : ys.toList.drop (i + 1) = yr := by have := List.drop_drop (i := 1) (j := i) (l := ys.toList); rw [hy] at this; simpa using this.symm
            have ih := eqFields_run (d := d) (xs := xs) (ys := ys) fs (i + 1) ks vs' us' r' hk hr (by rw [dx]; exact hv) (by rw [dy]; exact hu)
            have hn' : f.name ≠ "_" := by simpa using hn
            simp only [Op.eqFields, ne_eq, hn', not_false_eq_true, if_true, ho, Sem.run_bind, run_part_one ha ex, run_part_one ha ey, Result.andThen, hq]
            cases q
            · rfl
            · simpa using ih

theorem eqItems_run {d : Nat} {e : TypeId} (he : isInt P e = true) {xs ys : Array Value} : ∀ (ks : List CK) (i : Nat) (vs us : List V) (r : Bool), allI ks = true → eqCells ks vs us = some r →
    VRels m vs (xs.toList.drop i) → VRels m us (ys.toList.drop i) → (Op.eqItems (d + 1) e 1 xs ys (List.range' i ks.length)).run P w = .ok r w
  | [], _, vs, us, r, _, h, _, _ => by cases vs <;> cases us <;> simp [eqCells] at h; subst h; rfl
  | .s :: _, _, _, _, _, hk, _, _, _ => by simp [allI] at hk
  | .b :: _, _, _, _, _, hk, _, _, _ => by simp [allI] at hk
  | .i :: ks, i, vs, us, r, hk, h, hv, hu => by
    obtain ⟨v, vs', u, us', rfl, rfl⟩ := eqCells_cons h
    cases hx : xs.toList.drop i with
    | nil => rw [hx] at hv; cases hv
    | cons x xr =>
      cases hy : ys.toList.drop i with
      | nil => rw [hy] at hu; cases hu
      | cons y yr =>
        rw [hx] at hv; rw [hy] at hu
        cases hv with
        | cons hv0 hv => cases hu with
          | cons hu0 hu =>
            obtain ⟨ha, q, r', hq, hr, rfl⟩ := eqOne (w := w) (k := .i) he h hv0 hu0 d
            have ex : xs[i]? = some x := by
              have : (xs.toList.drop i)[0]? = some x := by rw [hx]; rfl
              simpa using this
            have ey : ys[i]? = some y := by
              have : (ys.toList.drop i)[0]? = some y := by rw [hy]; rfl
              simpa using this
            have dx : xs.toList.drop (i + 1) = xr := by have := List.drop_drop (i := 1) (j := i) (l := xs.toList); rw [hx] at this; simpa using this.symm
            have dy : ys.toList.drop (i + 1) = yr := by have := List.drop_drop (i := 1) (j := i) (l := ys.toList); rw [hy] at this; simpa using this.symm
            have ih := eqItems_run (d := d) he (xs := xs) (ys := ys) ks (i + 1) vs' us' r' hk hr (by rw [dx]; exact hv) (by rw [dy]; exact hu)
            simp only [List.length_cons, List.range'_succ, Op.eqItems, Nat.mul_one, Sem.run_bind, run_part_one ha ex, run_part_one ha ey, Result.andThen, hq]
            cases q
            · rfl
            · simpa using ih

theorem snd_eqs (hH : HRep B w0 m S.hp w) (hF : FRel m N S.tm a.eval) {neg : Bool} {ks : List CK} {t u : TypeId} {x y : Operand} {x' y' : Opd} (hop : o.op = .binOp (ngOp neg) t x y u) (hi : o'.i = .eqs neg ks x' y')
    (hx : okOpd x x' = true) (hy : okOpd y y' = true) (hg : P.eqGuardType P.depth t = false) (hst : P.stoodInHeld t = false)
    (ht : (∃ fs, P.underlying t = some (.struct fs) ∧ okFlat P 0 fs.toList ks = true) ∨ (∃ e, P.underlying t = some (.array ks.length e) ∧ allI ks = true ∧ isInt P e = true ∧ tSize P e = some 1)) : Snd P Γ B w0 m S o' w (execOp a.eval o) :=
  .pure hH fun R hs => by
    simp only [evalI, e_eqs, hi] at hs
    have hxr := ev_rel hF hx
    have hyr := ev_rel hF hy
    generalize ev S.tm x' = xv at hs hxr
    generalize ev S.tm y' = yv at hs hyr
    generalize hxe : a.eval x = xe at hxr
    generalize hye : a.eval y = ye at hyr
    split at hs
    · obtain ⟨v, hv, hs⟩ := hs
      simp only [Option.map_eq_some_iff] at hv
      obtain ⟨r, hr, rfl⟩ := hv
      cases hxr; cases hyr
      rename_i vs us xs hxs ys hys
      have heq : (Op.equal t (.agg ⟨xs⟩) (.agg ⟨ys⟩)).run P w = .ok r w := by
        show (Op.equalIn (9999 + 1) t (.agg ⟨xs⟩) (.agg ⟨ys⟩)).run P w = _
        rcases ht with ⟨fs, ht, hk⟩ | ⟨e, ht, hk, he, hz⟩
        · have hfs : P.fieldsOf t = fs := by simp [Program.fieldsOf, ht]
          rw [run_equalIn_struct w 9999 t ⟨xs⟩ ⟨ys⟩ (by rw [hfs]; exact ht) hst, hfs]
          exact eqFields_run (d := 9998) fs.toList 0 ks _ _ r hk hr (by simpa using hxs) (by simpa using hys)
        · cases hi0 : P.info? e with
          | none => simp [tSize, hi0] at hz
          | some i0 =>
            rw [run_equalIn_array w 9999 ⟨xs⟩ ⟨ys⟩ ht hi0, List.range_eq_range']
            have : P.cellsOf e = 1 := by simp only [tSize, hi0, Option.map_some, Option.some.injEq] at hz; simp [Program.cellsOf, hi0, hz]
            rw [this]
            exact eqItems_run (d := 9998) he ks 0 _ _ r hk hr (by simpa using hxs) (by simpa using hys)
      have hgr : ∀ op, (eqGuard op t x y (.agg ⟨xs⟩) (.agg ⟨ys⟩)).run P w = .ok () w := by
        intro op
        unfold eqGuard
        rw [Sem.run_ite]
        split
        iterate 2
          · rw [if_neg (by decide)]; simp [hg]
        · rw [if_pos (by decide)]; rfl
      refine ⟨_, .bool (ngB neg r), hs, ?_, .bool _⟩
      cases neg
      · simp [execOp, hop, hxe, hye, hgr, ngOp, ngB, binOp, heq]
      · simp [execOp, hop, hxe, hye, hgr, ngOp, ngB, binOp, heq]
    · exact hs.elim
end Go.AE

/- An abstract evaluator of translated Go code, fifth part: operations that only compute stand for the model's. -/
import Derived.Test.YtmgbeipdeeegoaaGreatDoorAe4
import Derived.Laws.Strings
namespace Go.AE
open Go.RowKit

def Snd (P : Program) (Γ : Tr Ent) (B : Nat) (w0 : World) (m : Mp) (S : St) (o' : O) (w : World) (s : Sem Next) : Prop :=
  ∀ (R : V → Tr Reg → P2 → Prop) (K : Value → World → Prop), (evalI Γ o' S).sat S.hp S.nx o'.adv R →
    (∀ v hp nx m' x w', R v hp nx → m.le m' → VRel m' v x → HRep B w0 m' hp w' → K x w') → Does P s w K

variable {P : Program} {Γ : Tr Ent} {B N : Nat} {w0 : World} {m : Mp} {S : St} {o : Oper} {o' : O} {a : Act} {w : World}

/-- An operation that only computes. -/
theorem Snd.pure (hH : HRep B w0 m S.hp w) {s : Sem Next} (h : ∀ R, (evalI Γ o' S).sat S.hp S.nx o'.adv R → ∃ v x, R v S.hp S.nx ∧ s.run P w = .ok (.value x) w ∧ VRel m v x) : Snd P Γ B w0 m S o' w s := by
  intro R K hs hK
  obtain ⟨v, x, hR, hr, hv⟩ := h R hs
  exact Does.val hr (hK v _ _ m x w hR (Mp.le_refl m) hv hH)

theorem wrap_mod (k : IntKind) (z : Nat) : k.wrap ((z % 2 ^ k.bits : Nat) : Int) = k.wrap (Int.ofNat z) := by
  unfold IntKind.wrap
  have : ((z % 2 ^ k.bits : Nat) : Int) % 2 ^ k.bits = (Int.ofNat z) % 2 ^ k.bits := by
    show ((z % 2 ^ k.bits : Nat) : Int) % 2 ^ k.bits = (z : Int) % 2 ^ k.bits
    rw [Int.natCast_emod, show ((2 ^ k.bits : Nat) : Int) = (2 : Int) ^ k.bits by simp, Int.emod_emod_of_dvd _ (Int.dvd_refl _)]
  simp only [this]

theorem bitsI_run (op : BinOp) (k : IntKind) (x y : Int) (h : op = .and ∨ op = .or ∨ op = .xor ∨ op = .andNot) : (Op.intBits op k x y).run P w = .ok (.int k (bitsI op k x y)) w := by
  have key : ∀ (f : Nat → Nat → Nat) (g : BitVec k.bits → BitVec k.bits → BitVec k.bits), (∀ a b : BitVec k.bits, (g a b).toNat = f a.toNat b.toNat) → (∀ p q n, f p q % 2 ^ n = f (p % 2 ^ n) (q % 2 ^ n)) →
      ∀ p q : Nat, k.wrap ((g (BitVec.ofInt k.bits (Int.ofNat p)) (BitVec.ofInt k.bits (Int.ofNat q))).toNat : Int) = k.wrap (Int.ofNat (f p q)) := by
    intro f g hg hf p q
    rw [hg]
    have e : ∀ p : Nat, (BitVec.ofInt k.bits (Int.ofNat p)).toNat = p % 2 ^ k.bits := fun p => by
      show (BitVec.ofInt k.bits (p : Int)).toNat = _
      rw [BitVec.ofInt_natCast, BitVec.toNat_ofNat]
    rw [e, e, ← hf, wrap_mod]
  rcases h with rfl | rfl | rfl | rfl
  · simp only [Op.intBits, bitsI]
    cases x <;> cases y <;> simp only [Sem.run_pure] <;> rw [← key (· &&& ·) (· &&& ·) (fun _ _ => BitVec.toNat_and ..) (fun _ _ _ => Nat.and_mod_two_pow)]
  · simp only [Op.intBits, bitsI]
    cases x <;> cases y <;> simp only [Sem.run_pure] <;> rw [← key (· ||| ·) (· ||| ·) (fun _ _ => BitVec.toNat_or ..) (fun _ _ _ => Nat.or_mod_two_pow)]
  · simp only [Op.intBits, bitsI]
    cases x <;> cases y <;> simp only [Sem.run_pure] <;> rw [← key (· ^^^ ·) (· ^^^ ·) (fun _ _ => BitVec.toNat_xor ..) (fun _ _ _ => Nat.xor_mod_two_pow)]
  · simp only [Op.intBits, bitsI]
    cases x <;> cases y <;> simp only [Sem.run_pure]

theorem binI_run {op : BinOp} {t : TypeId} {k k' : IntKind} {p q : Int} {hp : Tr Reg} {nx : P2} {adv : Bool} {R : V → Tr Reg → P2 → Prop} (h : (binI op k p k' q).sat hp nx adv R) (m : Mp) (w : World) :
    ∃ v x, R v hp nx ∧ (binOp op t (.int k p) (.int k' q)).run P w = .ok x w ∧ VRel m v x := by
  have eqb : ∀ x y : Int, (x == y) = decide (x = y) := fun x y => by cases h : decide (x = y) <;> simp_all
  cases op <;> simp only [binI, E.sat, kindEq_iff] at h
  case shl => exact ⟨_, _, h.2, by simp [binOp, Op.shift, Int.not_lt.2 (of_decide_eq_true h.1)], .int _ _⟩
  case shr => exact ⟨_, _, h.2, by simp [binOp, Op.shift, Int.not_lt.2 (of_decide_eq_true h.1)], .int _ _⟩
  case add => obtain ⟨rfl, h⟩ := h; exact ⟨_, _, h, by simp [binOp, Op.intArith], .int _ _⟩
  case sub => obtain ⟨rfl, h⟩ := h; exact ⟨_, _, h, by simp [binOp, Op.intArith], .int _ _⟩
  case mul => obtain ⟨rfl, h⟩ := h; exact ⟨_, _, h, by simp [binOp, Op.intArith], .int _ _⟩
  case quo => obtain ⟨rfl, h0, h⟩ := h; exact ⟨_, _, h, by simp only [Bool.not_eq_true', decide_eq_false_iff_not] at h0; simp [binOp, Op.intDiv, h0], .int _ _⟩
  case rem => obtain ⟨rfl, h0, h⟩ := h; exact ⟨_, _, h, by simp only [Bool.not_eq_true', decide_eq_false_iff_not] at h0; simp [binOp, Op.intDiv, h0], .int _ _⟩
  case and => obtain ⟨rfl, h⟩ := h; exact ⟨_, _, h, by simp only [binOp, ne_eq, not_true_eq_false, if_false]; exact bitsI_run _ _ _ _ (by simp), .int _ _⟩
  case or => obtain ⟨rfl, h⟩ := h; exact ⟨_, _, h, by simp only [binOp, ne_eq, not_true_eq_false, if_false]; exact bitsI_run _ _ _ _ (by simp), .int _ _⟩
  case xor => obtain ⟨rfl, h⟩ := h; exact ⟨_, _, h, by simp only [binOp, ne_eq, not_true_eq_false, if_false]; exact bitsI_run _ _ _ _ (by simp), .int _ _⟩
  case andNot => obtain ⟨rfl, h⟩ := h; exact ⟨_, _, h, by simp only [binOp, ne_eq, not_true_eq_false, if_false]; exact bitsI_run _ _ _ _ (by simp), .int _ _⟩
  case eql => obtain ⟨rfl, h⟩ := h; exact ⟨_, _, h, by simp [binOp, Op.intCmp, eqb], .bool _⟩
  case neq => obtain ⟨rfl, h⟩ := h; exact ⟨_, _, h, by simp [binOp, Op.intCmp, bne, eqb], .bool _⟩
  case lss => obtain ⟨rfl, h⟩ := h; exact ⟨_, _, h, by simp [binOp, Op.intCmp], .bool _⟩
  case leq => obtain ⟨rfl, h⟩ := h; exact ⟨_, _, h, by simp [binOp, Op.intCmp], .bool _⟩
  case gtr => obtain ⟨rfl, h⟩ := h; exact ⟨_, _, h, by simp [binOp, Op.intCmp], .bool _⟩
  case geq => obtain ⟨rfl, h⟩ := h; exact ⟨_, _, h, by simp [binOp, Op.intCmp], .bool _⟩

theorem bytes_toList (s : List UInt8) : (ByteArray.mk ⟨s⟩).toList = s := ByteArray.toList_mk s

theorem binS_run {op : BinOp} {t : TypeId} {p q : List UInt8} {hp : Tr Reg} {nx : P2} {adv : Bool} {R : V → Tr Reg → P2 → Prop} (h : (binS op p q).sat hp nx adv R) (m : Mp) (w : World) :
    ∃ v x, R v hp nx ∧ (binOp op t (.string ⟨⟨p⟩⟩) (.string ⟨⟨q⟩⟩)).run P w = .ok x w ∧ VRel m v x := by
  cases op <;> simp only [binS, E.sat] at h
  case add =>
    obtain ⟨h0, h⟩ := h
    have h0 := of_decide_eq_true h0
    refine ⟨_, _, h, ?_, .str _⟩
    have e : ¬ (((ByteArray.mk ⟨p⟩).size + (ByteArray.mk ⟨q⟩).size : Nat) : Int) > IntKind.i64.max := by
      show ¬ (((p.length + q.length : Nat) : Int) > 2 ^ 63 - 1)
      omega
    simp only [binOp, Op.stringOp, e, if_false]
    rw [show (ByteArray.mk ⟨p⟩ ++ ByteArray.mk ⟨q⟩) = ByteArray.mk ⟨p ++ q⟩ from ByteArray.ext rfl]
    rfl
  case eql => exact ⟨_, _, h, by simp [binOp, Op.stringOp, strEq_eq], .bool _⟩
  case neq => exact ⟨_, _, h, by simp [binOp, Op.stringOp, strEq_eq], .bool _⟩

theorem snd_mov (hH : HRep B w0 m S.hp w) (hF : FRel m N S.tm a.eval) {x : Operand} {y : Opd} (hop : o.op = .move x ∨ o.op = .assign x) (hi : o'.i = .mov y) (hx : okOpd x y = true) :
    Snd P Γ B w0 m S o' w (execOp a.eval o) :=
  .pure hH fun R hs => by
    simp only [evalI, e_mov, hi, E.sat] at hs
    exact ⟨_, _, hs, by rcases hop with hop | hop <;> simp only [execOp, hop] <;> rfl, ev_rel hF hx⟩

theorem snd_pick (hH : HRep B w0 m S.hp w) (hF : FRel m N S.tm a.eval) {c x y : Operand} {c' x' y' : Opd} (hop : o.op = .pick c x y) (hi : o'.i = .pick c' x' y')
    (hc : okOpd c c' = true) (hx : okOpd x x' = true) (hy : okOpd y y' = true) : Snd P Γ B w0 m S o' w (execOp a.eval o) :=
  .pure hH fun R hs => by
    simp only [evalI, e_pick, hi] at hs
    have hcr := ev_rel hF hc
    generalize ev S.tm c' = cv at hs hcr
    generalize hcx : a.eval c = cx at hcr
    cases cv <;> first | exact False.elim hs | skip
    rename_i b
    cases hcr
    cases b <;> simp only [E.sat] at hs
    · exact ⟨_, _, hs, by simp [execOp, hop, hcx, asBool], ev_rel hF hy⟩
    · exact ⟨_, _, hs, by simp [execOp, hop, hcx, asBool], ev_rel hF hx⟩

theorem eqGuard_run {op : BinOp} {t : TypeId} {x y : Operand} {u v : Value} (h : ∀ c d, ¬ (u = .agg c ∧ v = .agg d)) (h2 : ¬ (u = .nilIface ∧ v = .nilIface)) : (eqGuard op t x y u v).run P w = .ok () w := by
  unfold eqGuard
  rw [Sem.run_ite]
  split
  iterate 2
    · rw [if_neg (by decide)]
      split
      · exact absurd ⟨rfl, rfl⟩ h2
      · exact absurd ⟨rfl, rfl⟩ (h _ _)
      · rfl
  · rw [if_pos (by decide)]; rfl

theorem snd_bin (hH : HRep B w0 m S.hp w) (hF : FRel m N S.tm a.eval) {op : BinOp} {t u : TypeId} {x y : Operand} {x' y' : Opd} (hop : o.op = .binOp op t x y u) (hi : o'.i = .bin op x' y')
    (hx : okOpd x x' = true) (hy : okOpd y y' = true) : Snd P Γ B w0 m S o' w (execOp a.eval o) :=
  .pure hH fun R hs => by
    simp only [evalI, e_bin, hi] at hs
    have hxr := ev_rel hF hx
    have hyr := ev_rel hF hy
    generalize ev S.tm x' = xv at hs hxr
    generalize ev S.tm y' = yv at hs hyr
    generalize hxe : a.eval x = xe at hxr
    generalize hye : a.eval y = ye at hyr
    unfold binE at hs
    split at hs
    · cases hxr; cases hyr
      obtain ⟨v, x1, hR, hr, hv⟩ := binI_run (P := P) (t := t) hs m w
      exact ⟨v, x1, hR, by simp [execOp, hop, hxe, hye, eqGuard_run, hr], hv⟩
    · cases hxr; cases hyr
      obtain ⟨v, x1, hR, hr, hv⟩ := binS_run (P := P) (t := t) hs m w
      exact ⟨v, x1, hR, by simp [execOp, hop, hxe, hye, eqGuard_run, hr], hv⟩
    · exact hs.elim

theorem snd_eqb (hH : HRep B w0 m S.hp w) (hF : FRel m N S.tm a.eval) {neg : Bool} {t u : TypeId} {x y : Operand} {x' y' : Opd} (hop : o.op = .binOp (ngOp neg) t x y u)
    (hi : o'.i = .eqb neg x' y') (hx : okOpd x x' = true) (hy : okOpd y y' = true) (ht : P.underlying t = some .bool) : Snd P Γ B w0 m S o' w (execOp a.eval o) :=
  .pure hH fun R hs => by
    simp only [evalI, e_eqb, hi] at hs
    have hxr := ev_rel hF hx
    have hyr := ev_rel hF hy
    generalize ev S.tm x' = xv at hs hxr
    generalize ev S.tm y' = yv at hs hyr
    generalize hxe : a.eval x = xe at hxr
    generalize hye : a.eval y = ye at hyr
    split at hs
    · rename_i p q
      cases hxr; cases hyr
      have he : ∀ d, (Op.equalIn (d + 1) t (.bool p) (.bool q)).run P w = .ok (p == q) w := fun d => by simp [Op.equalIn, run_und ht]
      cases neg
      · exact ⟨_, _, hs, by simp [execOp, hop, hxe, hye, eqGuard_run, binOp, Op.equal, he 9999, Op.maxDepth, boolEq_eq, ngOp, ngB], .bool _⟩
      · exact ⟨_, _, hs, by simp [execOp, hop, hxe, hye, eqGuard_run, binOp, Op.equal, he 9999, Op.maxDepth, boolEq_eq, ngOp, ngB], .bool _⟩
    · exact hs.elim

theorem snd_nilq (hH : HRep B w0 m S.hp w) (hF : FRel m N S.tm a.eval) {k : NK} {neg : Bool} {t u : TypeId} {x y : Operand} {x' : Opd} (hop : o.op = .binOp (ngOp neg) t x y u)
    (hi : o'.i = .nilq k neg x') (hx : okOpd x x' = true)
    (hy : (k = .p ∧ y = .const (.pointer none) ∧ ∃ e, P.underlying t = some (.pointer e)) ∨ (k = .s ∧ y = .const (.slice none 0 0) ∧ ∃ e, P.underlying t = some (.slice e)) ∨
      (k = .f ∧ y = .const .nilFunc ∧ ∃ p q r, P.underlying t = some (.func p q r)) ∨ (k = .i ∧ y = .const .nilIface ∧ ∃ e, P.underlying t = some (.interface e))) : Snd P Γ B w0 m S o' w (execOp a.eval o) :=
  .pure hH fun R hs => by
    simp only [evalI, e_nilq, hi] at hs
    have hxr := ev_rel hF hx
    generalize ev S.tm x' = xv at hs hxr
    generalize hxe : a.eval x = xe at hxr
    cases hn : isNil k xv with
    | none => rw [hn] at hs; exact hs.elim
    | some b =>
      rw [hn] at hs
      refine ⟨_, .bool (ngB neg b), hs, ?_, .bool _⟩
      have fin : ∀ z, a.eval y = z → (∀ c d, ¬ (xe = .agg c ∧ z = .agg d)) → (∀ n, (eqGuard n t x y xe z).run P w = .ok () w) → (binOp .eql t xe z = (do pure (.bool (← Op.equal t xe z)))) → (binOp .neq t xe z = (do pure (.bool (!(← Op.equal t xe z))))) →
          (∀ d, (Op.equalIn (d + 1) t xe z).run P w = .ok b w) → (execOp a.eval o).run P w = .ok (.value (.bool (ngB neg b))) w := by
        intro z hz _ hg h1 h2 he
        have he' : (Op.equal t xe z).run P w = .ok b w := he 9999
        cases neg
        · simp [execOp, hop, hxe, hz, hg, h1, he', ngOp, ngB]
        · simp [execOp, hop, hxe, hz, hg, h2, he', ngOp, ngB]
      rcases hy with ⟨rfl, rfl, e, ht⟩ | ⟨rfl, rfl, e, ht⟩ | ⟨rfl, rfl, _, _, _, ht⟩ | ⟨rfl, rfl, e, ht⟩
      · cases xv <;> simp [isNil] at hn <;> subst hn <;> cases hxr <;>
          exact fin (.pointer none) rfl (by simp) (fun n => eqGuard_run (by simp) (by simp)) rfl rfl (fun d => by simp [Op.equalIn, run_und ht])
      · cases xv <;> simp [isNil] at hn <;> subst hn <;> cases hxr <;>
          exact fin (.slice none 0 0) rfl (by simp) (fun n => eqGuard_run (by simp) (by simp)) rfl rfl (fun d => by simp [Op.equalIn, run_und ht])
      · cases xv <;> simp [isNil] at hn <;> subst hn <;> cases hxr <;>
          exact fin .nilFunc rfl (by simp) (fun n => eqGuard_run (by simp) (by simp)) rfl rfl (fun d => by simp [Op.equalIn, run_und ht])
      · cases xv <;> simp [isNil] at hn <;> subst hn <;> cases hxr
        · refine fin .nilIface rfl (by simp) (fun n => ?_) rfl rfl (fun d => by simp [Op.equalIn, run_und ht])
          unfold eqGuard
          rw [Sem.run_ite]
          split
          iterate 2
            · rw [if_neg (by decide)]
              simp
          · rw [if_pos (by decide)]; rfl
        · exact fin .nilIface rfl (by simp) (fun n => eqGuard_run (by simp) (by simp)) rfl rfl (fun d => by simp [Op.equalIn, run_und ht])
end Go.AE

/- An abstract evaluator of translated Go code, twenty-first part: the region in any order (2). -/
import Derived.Test.YtmgbeipdeeegoaaGreatDoorAe20
import Derived.Orders
namespace Go.AE
open Go.RowKit

variable {P : Program} {X : FuncId × FuncId} {Γ : Tr Ent} {B N : Nat} {w0 : World} {m0 m : Mp}

def edgesMask (M : List Nat) : List Edge → Nat
  | [] => 0
  | e :: r => match Region.binds .any e with
    | true => Nat.lor (Nat.lor (2 ^ e.on) (M.getD e.on 0)) (edgesMask M r)
    | false => edgesMask M r
def masks : List Oper → List Nat → List Nat
  | [], M => M
  | o :: r, M => masks r (M ++ [edgesMask M o.after.toList])
def edgesLt (i : Nat) : List Edge → Bool
  | [] => true
  | e :: r => (match Region.binds .any e with
    | true => Nat.blt e.on i
    | false => true) && edgesLt i r

/-- The masks and the edges are in order, from number 'i' on. -/
def okMasks (M : List Nat) : Nat → List Oper → Bool
  | _, [] => true
  | i, o :: r => Nat.beq (M.getD i 0) (edgesMask M o.after.toList) && edgesLt i o.after.toList && okMasks M (i + 1) r
/-- All 'pre' (the earlier ones, their numbers from 0 on) may change places with 'o', but those that it waits for. -/
noncomputable def okPre (Γ : Tr Ent) (mask : Nat) (o : O) : Nat → List O → Bool
  | _, [] => true
  | j, o' :: r => (match Nat.testBit mask j with | true => true | false => commO Γ o' o) && okPre Γ mask o (j + 1) r
noncomputable def okPairs (Γ : Tr Ent) (M : List Nat) : Nat → List O → List O → Bool
  | _, _, [] => true
  | i, pre, o :: r => okPre Γ (M.getD i 0) o 0 pre && okPairs Γ M (i + 1) (pre ++ [o]) r
noncomputable def okDraw (Γ : Tr Ent) (ops : Array Oper) (ops' : List O) : Bool := okMasks (masks ops.toList []) 0 ops.toList && okPairs Γ (masks ops.toList []) 0 [] ops'

theorem edgesMask_spec {M : List Nat} {j : Nat} : ∀ {es : List Edge}, Nat.testBit (edgesMask M es) j = true → ∃ e ∈ es, Region.binds .any e = true ∧ (e.on = j ∨ Nat.testBit (M.getD e.on 0) j = true)
  | [], h => by simp [edgesMask] at h
  | e :: r, h => by
    unfold edgesMask at h
    split at h
    · rename_i hb
      have h : Nat.testBit ((2 ^ e.on ||| M.getD e.on 0) ||| edgesMask M r) j = true := h
      rw [Nat.testBit_or, Nat.testBit_or, Nat.testBit_two_pow] at h
      simp only [Bool.or_eq_true, decide_eq_true_eq] at h
      rcases h with (h | h) | h
      · exact ⟨e, List.mem_cons_self .., hb, .inl h⟩
      · exact ⟨e, List.mem_cons_self .., hb, .inr h⟩
      · obtain ⟨e', h1, h2⟩ := edgesMask_spec h; exact ⟨e', List.mem_cons_of_mem _ h1, h2⟩
    · obtain ⟨e', h1, h2⟩ := edgesMask_spec h; exact ⟨e', List.mem_cons_of_mem _ h1, h2⟩

theorem edgesLt_spec {i : Nat} : ∀ {es : List Edge}, edgesLt i es = true → ∀ e ∈ es, Region.binds .any e = true → e.on < i
  | [], _, e, he, _ => by simp at he
  | e' :: r, h, e, he, hb => by
    simp only [edgesLt, Bool.and_eq_true] at h
    rcases List.mem_cons.1 he with rfl | he
    · have := h.1; rw [hb] at this; exact Nat.le_of_ble_eq_true this
    · exact edgesLt_spec h.2 e he hb

theorem okMasks_spec {M : List Nat} : ∀ {l : List Oper} {i : Nat}, okMasks M i l = true → ∀ k o, l[k]? = some o → M.getD (i + k) 0 = edgesMask M o.after.toList ∧ edgesLt (i + k) o.after.toList = true
  | [], _, _, k, o, h => by simp at h
  | o' :: r, i, h, k, o, hk => by
    simp only [okMasks, Bool.and_eq_true] at h
    cases k with
    | zero => simp at hk; subst hk; exact ⟨Nat.eq_of_beq_eq_true h.1.1, h.1.2⟩
    | succ k =>
      have := okMasks_spec h.2 k o (by simpa using hk)
      rwa [show i + 1 + k = i + (k + 1) by omega] at this

theorem okPre_spec {mask : Nat} {o : O} : ∀ {l : List O} {i : Nat}, okPre Γ mask o i l = true → ∀ k o', l[k]? = some o' → Nat.testBit mask (i + k) = false → commO Γ o' o = true
  | [], _, _, k, _, h, _ => by simp at h
  | o1 :: r, i, h, k, o', hk, hm => by
    simp only [okPre, Bool.and_eq_true] at h
    cases k with
    | zero => simp at hk hm; subst hk; have := h.1; rw [hm] at this; exact this
    | succ k => exact okPre_spec h.2 k o' (by simpa using hk) (by rwa [show i + 1 + k = i + (k + 1) by omega])

theorem okPairs_spec {M : List Nat} : ∀ {l : List O} {i : Nat} {pre : List O}, pre.length = i → okPairs Γ M i pre l = true → ∀ k o, l[k]? = some o → okPre Γ (M.getD (i + k) 0) o 0 ((pre ++ l).take (i + k)) = true
  | [], _, _, _, _, k, _, h => by simp at h
  | o1 :: r, i, pre, hl, h, k, o, hk => by
    simp only [okPairs, Bool.and_eq_true] at h
    cases k with
    | zero =>
      simp at hk; subst hk
      have : (pre ++ o1 :: r).take (i + 0) = pre := by simp [← hl]
      rw [this]; exact h.1
    | succ k =>
      have := okPairs_spec (pre := pre ++ [o1]) (by simp [hl]) h.2 k o (by simpa using hk)
      rwa [show i + 1 + k = i + (k + 1) by omega, List.append_assoc, List.singleton_append] at this

theorem okOs_get {ops : Array Oper} : ∀ {l : List Oper} {l' : List O}, okOs P X N ops l l' = true → l.length = l'.length ∧ ∀ (k : Nat) (o : Oper), l[k]? = some o → ∃ o', l'[k]? = some o' ∧ okO P X N ops o o' = true
  | [], [], _ => ⟨rfl, fun k o h => by simp at h⟩
  | [], _ :: _, h => by simp [okOs] at h
  | _ :: _, [], h => by simp [okOs] at h
  | o :: l, o' :: l', h => by
    simp only [okOs, Bool.and_eq_true] at h
    obtain ⟨h1, h2⟩ := okOs_get h.2
    refine ⟨by simp [h1], fun k o1 hk => ?_⟩
    cases k with
    | zero => simp at hk; subst hk; exact ⟨o', rfl, h.1⟩
    | succ k => exact h2 k o1 (by simpa using hk)

/-- The numbers not listed yet. -/
def rem (n : Nat) (listed : Array Bool) : List Nat := (List.range n).filter fun j => !listed.getD j true

/-- What is listed is closed under what it waits for. -/
def Closed (ops : Array Oper) (listed : Array Bool) : Prop := ∀ i o, ops[i]? = some o → listed.getD i true = true → ∀ e ∈ o.after, Region.binds .any e = true → listed.getD e.on false = true

theorem waits {ops : Array Oper} {listed : Array Bool} {M : List Nat} (hM : okMasks M 0 ops.toList = true) (hc : Closed ops listed) : ∀ i o, ops[i]? = some o → (∀ e ∈ o.after, Region.binds .any e = true → listed.getD e.on false = true) →
    ∀ j, Nat.testBit (M.getD i 0) j = true → listed.getD j true = true := by
  intro i
  induction i using Nat.strongRecOn with
  | ind i ih =>
    intro o ho he j hj
    obtain ⟨h1, h2⟩ := okMasks_spec hM i o (by simpa using ho)
    rw [Nat.zero_add] at h1 h2
    rw [h1] at hj
    obtain ⟨e, hm, hb, hj⟩ := edgesMask_spec hj
    have hl := he e (by simpa using hm) hb
    have hlt := edgesLt_spec h2 e hm hb
    have hl' : listed.getD e.on true = true := by
      revert hl
      simp only [Array.getD_eq_getD_getElem?]
      cases listed[e.on]? <;> simp
    rcases hj with hj | hj
    · rw [← hj]; exact hl'
    · have hi : i < ops.size := (Array.getElem?_eq_some_iff.1 ho).1
      obtain ⟨o', ho'⟩ : ∃ o', ops[e.on]? = some o' := ⟨ops[e.on]'(by omega), Array.getElem?_eq_getElem (by omega)⟩
      exact ih e.on hlt o' ho' (hc e.on o' ho' hl') j hj
end Go.AE

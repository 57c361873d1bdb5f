/- An abstract evaluator of translated Go code, twenty-second part: the region in any order (3). -/
import Derived.Test.YtmgbeipdeeegoaaGreatDoorAe21
namespace Go.AE
open Go.RowKit

variable {P : Program} {X : FuncId × FuncId} {Γ : Tr Ent} {B N : Nat} {w0 : World} {m0 m : Mp}

def sel (ops' : List O) (l : List Nat) : List O := l.filterMap fun j => ops'[j]?

theorem mem_rem {n j : Nat} {listed : Array Bool} : j ∈ rem n listed ↔ j < n ∧ listed.getD j true = false := by
  simp [rem]

theorem rem_pairwise {n : Nat} {listed : Array Bool} : (rem n listed).Pairwise (· < ·) := List.Pairwise.filter _ (List.pairwise_lt_range)

theorem rem_set {n i : Nat} {listed : Array Bool} (hi : listed.getD i true = false) {s t : List Nat} (h : rem n listed = s ++ i :: t) : rem n (listed.setIfInBounds i true) = s ++ t := by
  have hlt : i < listed.size := by
    rcases Nat.lt_or_ge i listed.size with h' | h'
    · exact h'
    · simp [Array.getElem?_eq_none h'] at hi
  have hp := rem_pairwise (n := n) (listed := listed)
  have e : rem n (listed.setIfInBounds i true) = (rem n listed).filter fun j => !Nat.beq j i := by
    unfold rem
    rw [List.filter_filter]
    congr 1
    funext j
    by_cases e : j = i
    · subst e
      simp [Array.getD_eq_getD_getElem?, hlt]
    · rw [getD_set_ne true (Ne.symm e)]
      have : Nat.beq j i = false := by cases hq : Nat.beq j i; rfl; exact absurd (Nat.eq_of_beq_eq_true hq) e
      simp [this]
  rw [e, h]
  rw [h] at hp
  rw [List.pairwise_append, List.pairwise_cons] at hp
  rw [List.filter_append, List.filter_cons]
  have h1 : s.filter (fun j => !Nat.beq j i) = s := List.filter_eq_self.2 fun j hj => by
    have := hp.2.2 j hj i (List.mem_cons_self ..)
    have : Nat.beq j i = false := by cases hq : Nat.beq j i; rfl; exact absurd (Nat.eq_of_beq_eq_true hq) (by omega)
    simp [this]
  have h2 : t.filter (fun j => !Nat.beq j i) = t := List.filter_eq_self.2 fun j hj => by
    have := hp.2.1.1 j hj
    have : Nat.beq j i = false := by cases hq : Nat.beq j i; rfl; exact absurd (Nat.eq_of_beq_eq_true hq) (by omega)
    simp [this]
  simp [h1, h2]

theorem any_sound (hX : ExtOk P X.1 add64Entry) (hY : ExtOk P X.2 sub64Entry) (hΓ : ΓOk P Γ) (hL : ΓFine Γ) {ops : Array Oper} {ops' : List O} (hok : okOs P X N ops ops.toList ops' = true) (hD : okDraw Γ ops ops' = true)
    {k : St → T} {Q : L → Prop} {Qx : Exit → Act → World → Prop} (fin : ∀ m' S' a' w', Rep B w0 m0 m' N S' a' w' → wpT (k S') Q → Qx .normal a' w') :
    ∀ (fuel : Nat) (listed : Array Bool) (m : Mp) (S : St) (a : Act) (w : World), (rem ops.size listed).length ≤ fuel → Closed ops listed → Rep B w0 m0 m N S a w → wpT (opsT Γ (sel ops' (rem ops.size listed)) S k) Q →
      wpAny P .any ops Qx fuel listed a w := by
  simp only [okDraw, Bool.and_eq_true] at hD
  obtain ⟨hM, hP⟩ := hD
  generalize masks ops.toList [] = M at hM hP
  obtain ⟨hlen, hget⟩ := okOs_get hok
  have empty : ∀ listed, Closed ops listed → Region.ready .any ops listed = [] → rem ops.size listed = [] := by
    intro listed hc h0
    cases hr : rem ops.size listed with
    | nil => rfl
    | cons i t =>
      exfalso
      have hp := rem_pairwise (n := ops.size) (listed := listed)
      rw [hr, List.pairwise_cons] at hp
      have hi : i ∈ rem ops.size listed := by rw [hr]; exact List.mem_cons_self ..
      rw [mem_rem] at hi
      have ho : ops[i]? = some (ops[i]'hi.1) := Array.getElem?_eq_getElem hi.1
      have : i ∈ Region.ready .any ops listed := by
        rw [mem_ready]
        refine ⟨hi.2, _, ho, fun e he hb => ?_⟩
        obtain ⟨_, h2⟩ := okMasks_spec hM i _ ((Array.getElem?_toList).trans ho)
        rw [Nat.zero_add] at h2
        have hlt := edgesLt_spec h2 e (by simpa using he) hb
        cases hq : listed.getD e.on true with
        | false =>
          have : e.on ∈ rem ops.size listed := mem_rem.2 ⟨by omega, hq⟩
          rw [hr] at this
          rcases List.mem_cons.1 this with h | h
          · omega
          · have := hp.1 _ h; omega
        | true =>
          have hlt2 : e.on < listed.size := by
            have : i < listed.size := by
              rcases Nat.lt_or_ge i listed.size with h' | h'
              · exact h'
              · have := hi.2; simp [Array.getElem?_eq_none h'] at this
            omega
          revert hq
          simp only [Array.getD_eq_getD_getElem?, Array.getElem?_eq_getElem hlt2, Option.getD_some]
          exact id
      rw [h0] at this
      cases this
  intro fuel
  induction fuel with
  | zero =>
    intro listed m S a w hf hc hr h
    have h0 : rem ops.size listed = [] := List.length_eq_zero_iff.1 (by omega)
    refine ⟨?_, ?_⟩
    · rw [List.eq_nil_iff_forall_not_mem]
      intro i hi
      rw [mem_ready] at hi
      obtain ⟨h1, o, ho, _⟩ := hi
      have : i ∈ rem ops.size listed := mem_rem.2 ⟨(Array.getElem?_eq_some_iff.1 ho).1, h1⟩
      rw [h0] at this
      cases this
    · rw [h0] at h; exact fin m S a w hr h
  | succ fuel ih =>
    intro listed m S a w hf hc hr h
    refine ⟨fun h0 => ?_, fun i hi => ?_⟩
    · rw [empty listed hc h0] at h; exact fin m S a w hr h
    · rw [mem_ready] at hi
      obtain ⟨h1, o, ho, he⟩ := hi
      have hmem : i ∈ rem ops.size listed := mem_rem.2 ⟨(Array.getElem?_eq_some_iff.1 ho).1, h1⟩
      obtain ⟨s, t, hst⟩ := List.append_of_mem hmem
      obtain ⟨o', ho', hoo⟩ := hget i o (by simpa using ho)
      have hset := rem_set h1 hst
      have hp := rem_pairwise (n := ops.size) (listed := listed)
      rw [hst, List.pairwise_append] at hp
      have hsel : sel ops' (rem ops.size listed) = sel ops' s ++ o' :: sel ops' t := by
        rw [hst]; simp [sel, List.filterMap_append, ho']
      rw [hsel] at h
      have hpre := okPairs_spec (pre := []) rfl hP i o' ho'
      simp only [List.length_nil, Nat.zero_add, List.nil_append] at hpre
      have hfr := front hX hY hΓ hL (ops := ops) (sel ops' s) m S a w (fun x hx => by
        obtain ⟨j, hj, hjx⟩ := List.mem_filterMap.1 hx
        have hji : j < i := hp.2.2 j hj i (List.mem_cons_self ..)
        have hjm : j ∈ rem ops.size listed := by rw [hst]; exact List.mem_append_left _ hj
        rw [mem_rem] at hjm
        refine ⟨?_, okPre_spec hpre j x (by rw [List.getElem?_take, if_pos hji]; exact hjx) ?_⟩
        · obtain ⟨x', hx', hxx⟩ := hget j (ops[j]'hjm.1) (by simp [hjm.1])
          rw [hjx] at hx'; cases hx'
          exact ⟨_, hxx⟩
        · rw [Nat.zero_add]
          cases hq : Nat.testBit (M.getD i 0) j with
          | false => rfl
          | true => have := waits hM hc i o ho he j hq; rw [hjm.2] at this; cases this) hr h
      have hcl : Closed ops (listed.setIfInBounds i true) := by
        intro i' o1 ho1 hl e hem hb
        by_cases e1 : i = i'
        · subst e1
          rw [ho] at ho1; cases ho1
          exact getD_set_true (he e hem hb)
        · rw [getD_set_ne true e1] at hl
          exact getD_set_true (hc i' o1 ho1 hl e hem hb)
      have := op_sound hX hY hΓ hoo hr hfr (K := wpAny P .any ops Qx fuel (listed.setIfInBounds i true)) (Qx := Qx) fun m' S' a' w' hr' h' =>
        ih _ m' S' a' w' (by rw [hset]; rw [hst] at hf; simp at hf ⊢; omega) hcl hr' (by
          have e : sel ops' (s ++ t) = sel ops' s ++ sel ops' t := List.filterMap_append
          rw [hset, e]; exact h')
      unfold wpOp
      rw [ho]
      simp only
      split
      · rename_i hw; rw [if_pos hw] at this; exact .inl this
      · rename_i hw; rw [if_neg hw] at this; exact this

theorem sel_all : ∀ (l pre : List O), (List.range' pre.length l.length).filterMap (fun j => (pre ++ l)[j]?) = l
  | [], pre => by simp
  | o :: l, pre => by
    have ih := sel_all l (pre ++ [o])
    rw [List.length_append, List.length_singleton, List.append_assoc, List.singleton_append] at ih
    rw [List.length_cons, List.range'_succ, List.filterMap_cons]
    simp only [List.getElem?_append_right (Nat.le_refl _), Nat.sub_self, List.getElem?_cons_zero]
    rw [ih]

theorem draw_sound (hm : P.follows .mixedOrders = true) (hX : ExtOk P X.1 add64Entry) (hY : ExtOk P X.2 sub64Entry) (hΓ : ΓOk P Γ) (hL : ΓFine Γ) {ops : Array Oper} {ops' : List O} (hok : okOs P X N ops ops.toList ops' = true) (hD : okDraw Γ ops ops' = true) : DrawOk P Γ N ops ops' := by
  intro B w0 m0 m S a w k Q Qx id hr h fin
  refine wp_region_any hm ?_
  have hlen := (okOs_get hok).1
  have hrem : rem ops.size (Array.replicate ops.size false) = List.range ops.size := List.filter_eq_self.2 fun j hj => by
    have := List.mem_range.1 hj
    simp [Array.getD_eq_getD_getElem?, this]
  refine any_sound hX hY hΓ hL hok hD fin _ _ m S a _ (by rw [hrem]; simp) ?_ ⟨hr.defers, hr.size, hr.fr, hr.hp.drew, hr.le⟩ ?_
  · intro i o ho hl
    have := (Array.getElem?_eq_some_iff.1 ho).1
    simp [Array.getD_eq_getD_getElem?, this] at hl
  · rw [hrem]
    have : sel ops' (List.range ops.size) = ops' := by
      have hs : ops.size = ops'.length := by simpa using hlen
      rw [hs, List.range_eq_range']
      exact sel_all ops' []
    rw [this]; exact h
end Go.AE

/- An abstract evaluator of translated Go code, sixteenth part: a region whose order is open comes to the same in every order. -/
import Derived.Test.YtmgbeipdeeegoaaGreatDoorAe15
namespace Go.AE
open Go.RowKit

variable {P : Program} {Γ : Tr Ent}

/-- An operation, its guard asked, as one. -/
noncomputable def evalG (Γ : Tr Ent) (o : O) (S : St) : E :=
  match o.g with
  | none => evalI Γ o S
  | some (p, want) => match S.tm.get p with
    | some (.bool b) => (match boolEq b want with | true => evalI Γ o S | false => .val (.tup []))
    | some (.tup vs) => (match vs with
      | [] => .val (.tup [])
      | _ :: _ => .fail)
    | _ => .fail

theorem sat_toT {tm : Tr V} {hp : Tr Reg} {nx : P2} {d : Option P2} {adv : Bool} {k : St → T} {Q : L → Prop} : ∀ (e : E), (e.sat hp nx adv fun v hp nx => wpT (k ⟨put tm d v, hp, nx⟩) Q) → wpT (e.toT tm hp nx d adv k) Q
  | .val _, h => h
  | .mem _ _ _, h => h
  | .need _ e, h => ⟨h.1, sat_toT e h.2⟩
  | .br _ e f, h => ⟨fun b => sat_toT e (h.1 b), fun b => sat_toT f (h.2 b)⟩
  | .ldV _ k', ⟨v, e, h⟩ => ⟨v, e, sat_toT (k' v) h⟩
  | .ldC _ k', ⟨v, e, h⟩ => ⟨v, e, sat_toT (k' v) h⟩
  | .call _, ⟨r, e, h⟩ => ⟨r, e, h⟩
  | .tc t, h => by
    refine wpT_mono t (fun l hl => ?_) h
    cases l with
    | val => exact hl
    | ret => exact hl.elim
  | .fail, h => h

theorem opT_iff {o : O} {S : St} {k : St → T} {Q : L → Prop} : wpT (opT Γ o S k) Q ↔ (evalG Γ o S).sat S.hp S.nx o.adv fun v hp nx => wpT (k ⟨put S.tm o.d v, hp, nx⟩) Q := by
  unfold opT evalG
  cases hg : o.g with
  | none => exact ⟨toT_sat _, sat_toT _⟩
  | some pw =>
    obtain ⟨p, want⟩ := pw
    simp only
    cases hb : S.tm.get p with
    | none => exact Iff.rfl
    | some v =>
      cases v <;> first | exact Iff.rfl | skip
      case tup vs => cases vs <;> exact Iff.rfl
      rename_i b
      have e := Tr.set_get p S.tm hb
      cases b
      · simp only [e]
        cases want
        · exact ⟨fun h => toT_sat _ (h.2 rfl), fun h => ⟨fun h => by simp at h, fun _ => sat_toT _ h⟩⟩
        · exact ⟨fun h => h.2 rfl, fun h => ⟨fun h => by simp at h, fun _ => h⟩⟩
      · simp only [e]
        cases want
        · exact ⟨fun h => h.1 rfl, fun h => ⟨fun _ => h, fun h => by simp at h⟩⟩
        · exact ⟨fun h => toT_sat _ (h.1 rfl), fun h => ⟨fun _ => sat_toT _ h, fun h => by simp at h⟩⟩

theorem wpT_some : ∀ (t : T) {Q : L → Prop}, wpT t Q → ∃ l, Q l
  | .leaf l, _, h => ⟨l, h⟩
  | .br b t f, _, h => by cases b; exact wpT_some f (h.2 rfl); exact wpT_some t (h.1 rfl)
  | .need _ t, _, h => wpT_some t h.2
  | .optV _ k, _, ⟨v, _, h⟩ => wpT_some (k v) h
  | .optC _ k, _, ⟨v, _, h⟩ => wpT_some (k v) h
  | .optR _ k, _, ⟨v, _, h⟩ => wpT_some (k v) h
  | .bind t k, _, h => by obtain ⟨l, hl⟩ := wpT_some t h; exact wpT_some (k l) hl
  | .loop B S k, Q, ⟨n, h⟩ => by
    have key : ∀ n S, loopN (fun S Q => wpT (B S) Q) Q (fun ex S => wpT (k ex S) Q) n S → ∃ l, Q l := by
      intro n
      induction n with
      | zero => intro S h; exact h.elim
      | succ n ih =>
        intro S h
        obtain ⟨l, hl⟩ := wpT_some (B S) h
        cases l with
        | val => exact hl.elim
        | ret ex S' => cases ex with
          | norm => exact ih S' hl
          | exit i => exact wpT_some _ hl
          | ret => exact wpT_some _ hl
    exact key n S h
  | .tick v k, _, h => wpT_some (k v) h
  | .step S k, _, h => wpT_some (k S) h
  | .fail, _, h => h.elim

section
variable {hp : Tr Reg} {nx : P2} {adv : Bool} {R R' : V → Tr Reg → P2 → Prop}
theorem sat_mono : ∀ (e : E), (∀ v hp nx, R v hp nx → R' v hp nx) → e.sat hp nx adv R → e.sat hp nx adv R'
  | .val _, h, k => h _ _ _ k
  | .mem _ _ _, h, k => h _ _ _ k
  | .need _ e, h, k => ⟨k.1, sat_mono e h k.2⟩
  | .br _ e f, h, k => ⟨fun b => sat_mono e h (k.1 b), fun b => sat_mono f h (k.2 b)⟩
  | .ldV _ k', h, ⟨v, e, k⟩ => ⟨v, e, sat_mono (k' v) h k⟩
  | .ldC _ k', h, ⟨v, e, k⟩ => ⟨v, e, sat_mono (k' v) h k⟩
  | .call _, h, ⟨r, e, k⟩ => ⟨r, e, h _ _ _ k⟩
  | .tc t, h, k => wpT_mono t (fun l hl => by cases l with | val => exact h _ _ _ hl | ret => exact hl) k
  | .fail, _, k => k
theorem sat_some : ∀ (e : E), e.sat hp nx adv R → ∃ v hp nx, R v hp nx
  | .val _, k => ⟨_, _, _, k⟩
  | .mem _ _ _, k => ⟨_, _, _, k⟩
  | .need _ e, k => sat_some e k.2
  | .br b e f, k => by cases b; exact sat_some f (k.2 rfl); exact sat_some e (k.1 rfl)
  | .ldV _ k', ⟨v, _, k⟩ => sat_some (k' v) k
  | .ldC _ k', ⟨v, _, k⟩ => sat_some (k' v) k
  | .call _, ⟨_, _, k⟩ => ⟨_, _, _, k⟩
  | .tc t, k => by
    obtain ⟨l, hl⟩ := wpT_some t k
    cases l with
    | val => exact ⟨_, _, _, hl⟩
    | ret => exact hl.elim
  | .fail, k => k.elim
end

/-! ### What an operation reads -/
def opds : I → List Opd
  | .mov x | .nilq _ _ x | .un _ x | .conv _ x | .s2b x | .b2s x | .lea _ x | .fld _ _ _ x | .nilc x | .ext _ x | .load _ _ x | .box x | .mkif _ x | .len x | .lenS x => [x]
  | .bin _ x y | .eqb _ x y | .eqs _ _ x y | .ixA _ _ x y | .ixS _ x y | .ixV _ _ _ x y | .ixStr x y | .store _ x y | .mks _ _ _ x y | .app _ _ x y | .cpy _ x y | .mm _ x y => [x, y]
  | .pick a b c | .add64 a b c | .sub64 a b c => [a, b, c]
  | .alloc _ => []
  | .build _ ps | .bsl _ _ _ ps => ps.map fun p => p.2.2
  | .slStr x lo hi | .slSl _ x lo hi | .slArr _ _ x lo hi => x :: (lo.toList ++ hi.toList)
  | .mkfn _ xs | .call _ xs => xs
  | .callv x xs => x :: xs

def Opd.slot : Opd → Option P2
  | .s p => some p
  | .c _ => none

def O.reads (o : O) : List P2 := (opds o.i).filterMap Opd.slot ++ (match o.g with | some (p, _) => [p] | none => [])

def Agree (tm tm' : Tr V) (rs : List P2) : Prop := ∀ p ∈ rs, tm.get p = tm'.get p

theorem ev_congr {tm tm' : Tr V} {o : O} (h : Agree tm tm' o.reads) : ∀ x ∈ opds o.i, ev tm x = ev tm' x := by
  intro x hx
  cases x with
  | c v => rfl
  | s p =>
    have : tm.get p = tm'.get p := h p (List.mem_append_left _ (List.mem_filterMap.2 ⟨_, hx, rfl⟩))
    simp only [ev, this]

theorem fillV_congr {tm tm' : Tr V} : ∀ (ps : List (Nat × Nat × Opd)) (z : List V), (∀ x ∈ ps.map (fun p => p.2.2), ev tm x = ev tm' x) → fillV tm z ps = fillV tm' z ps
  | [], _, _ => rfl
  | (off, size, x) :: ps, z, h => by
    have hx : ev tm x = ev tm' x := h x (by simp)
    have ih := fun z => fillV_congr ps z (fun y hy => h y (by simp only [List.map_cons]; exact List.mem_cons_of_mem _ hy))
    simp only [fillV, hx, ih]

theorem bounds_congr {tm tm' : Tr V} {len most : Nat} {lo hi : Option Opd} {k : Nat → Nat → E} (h : ∀ x ∈ lo.toList ++ hi.toList, ev tm x = ev tm' x) : bounds tm len most lo hi k = bounds tm' len most lo hi k := by
  cases lo with
  | none => cases hi with
    | none => rfl
    | some y => have hy : ev tm y = ev tm' y := h y (by simp); simp only [bounds, hy]
  | some x =>
    have hx : ev tm x = ev tm' x := h x (by simp)
    cases hi with
    | none => simp only [bounds, hx]
    | some y => have hy : ev tm y = ev tm' y := h y (by simp); simp only [bounds, hx, hy]

theorem map_congr_ev {tm tm' : Tr V} {xs : List Opd} (h : ∀ x ∈ xs, ev tm x = ev tm' x) : xs.map (ev tm) = xs.map (ev tm') := List.map_congr_left h

theorem evalI_congr {tm tm' : Tr V} {hp : Tr Reg} {nx : P2} {o : O} (h : Agree tm tm' o.reads) : evalI Γ o ⟨tm, hp, nx⟩ = evalI Γ o ⟨tm', hp, nx⟩ := by
  have he := ev_congr h
  clear h
  unfold evalI
  generalize o.i = i at he
  cases i <;> simp only [opds, List.mem_cons, List.not_mem_nil, or_false, forall_eq_or_imp, forall_eq] at he
  case alloc => rfl
  case build z ps => simp only [e_build, fillV_congr ps z he]
  case bsl sz n z ps => simp only [e_bsl, fillV_congr ps z he, fresh]
  case slStr x lo hi => simp only [e_slStr, he.1, bounds_congr he.2]
  case slSl sz x lo hi => simp only [e_slSl, he.1, bounds_congr he.2]
  case slArr n sz x lo hi => simp only [e_slArr, he.1, bounds_congr he.2]
  case mkfn f xs => simp only [e_mkfn, map_congr_ev he]
  case call f xs => simp only [e_call, map_congr_ev he, callE]
  case callv x xs => simp only [e_callv, he.1, map_congr_ev he.2, callE]
  all_goals simp only [e_mov, e_pick, e_bin, e_eqb, e_nilq, e_eqs, e_un, e_conv, e_s2b, e_b2s, e_lea, e_ixA, e_ixS, e_ixV, e_ixStr, e_fld, e_nilc, e_ext, e_load, e_store, e_box, e_mks, e_mkif, e_len, e_lenS, e_app, e_cpy, e_mm, e_add64, e_sub64, he, fresh]

/-! ### Kinds: 0, 1 compute or read; 2 makes one region; 3 anything -/
noncomputable def kindI (Γ : Tr Ent) : I → Nat
  | .b2s _ | .load .. | .slArr .. => 1
  | .alloc _ | .box _ | .bsl .. | .mks .. | .s2b _ => 2
  | .store .. | .app .. | .cpy .. | .callv .. => 3
  | .call f _ => (match Γ.get f with
    | some (.f _ kd) => (match kd with | 0 => 0 | 1 => 1 | 4 => 4 | _ => 3)
    | some (.t _ kd) => (match kd with | 5 => 5 | 6 => 6 | _ => 3)
    | none => 3)
  | _ => 0

def Calm : E → Prop
  | .val _ => True
  | .need _ e => Calm e
  | .br _ e f => Calm e ∧ Calm f
  | .ldV _ k => ∀ v, Calm (k v)
  | .ldC _ k => ∀ v, Calm (k v)
  | .fail => True
  | _ => False

/-- What a calm one comes to. -/
def Out (e : E) (v : V) : Prop := e.sat .e .h false fun v' _ _ => v' = v

theorem calm_iff : ∀ (e : E), Calm e → ∀ {hp : Tr Reg} {nx : P2} {adv : Bool} {R : V → Tr Reg → P2 → Prop}, e.sat hp nx adv R ↔ ∃ v, Out e v ∧ R v hp nx
  | .val v, _, hp, nx, adv, R => ⟨fun h => ⟨v, rfl, h⟩, fun ⟨v', e, h⟩ => by have e : v = v' := e; subst e; exact h⟩
  | .need b e, hc, hp, nx, adv, R => ⟨fun h => by obtain ⟨v, h1, h2⟩ := (calm_iff e hc).1 h.2; exact ⟨v, ⟨h.1, h1⟩, h2⟩, fun ⟨v, h1, h2⟩ => ⟨h1.1, (calm_iff e hc).2 ⟨v, h1.2, h2⟩⟩⟩
  | .br b e f, hc, hp, nx, adv, R => by
    cases b
    · exact ⟨fun h => by obtain ⟨v, h1, h2⟩ := (calm_iff f hc.2).1 (h.2 rfl); exact ⟨v, ⟨fun e => by simp at e, fun _ => h1⟩, h2⟩, fun ⟨v, h1, h2⟩ => ⟨fun e => by simp at e, fun _ => (calm_iff f hc.2).2 ⟨v, h1.2 rfl, h2⟩⟩⟩
    · exact ⟨fun h => by obtain ⟨v, h1, h2⟩ := (calm_iff e hc.1).1 (h.1 rfl); exact ⟨v, ⟨fun _ => h1, fun e => by simp at e⟩, h2⟩, fun ⟨v, h1, h2⟩ => ⟨fun _ => (calm_iff e hc.1).2 ⟨v, h1.1 rfl, h2⟩, fun e => by simp at e⟩⟩
  | .ldV o k, hc, hp, nx, adv, R => ⟨fun ⟨x, e, h⟩ => by obtain ⟨v, h1, h2⟩ := (calm_iff (k x) (hc x)).1 h; exact ⟨v, ⟨x, e, h1⟩, h2⟩, fun ⟨v, ⟨x, e, h1⟩, h2⟩ => ⟨x, e, (calm_iff (k x) (hc x)).2 ⟨v, h1, h2⟩⟩⟩
  | .ldC o k, hc, hp, nx, adv, R => ⟨fun ⟨x, e, h⟩ => by obtain ⟨v, h1, h2⟩ := (calm_iff (k x) (hc x)).1 h; exact ⟨v, ⟨x, e, h1⟩, h2⟩, fun ⟨v, ⟨x, e, h1⟩, h2⟩ => ⟨x, e, (calm_iff (k x) (hc x)).2 ⟨v, h1, h2⟩⟩⟩
  | .fail, _, hp, nx, adv, R => ⟨fun h => h.elim, fun ⟨_, h, _⟩ => h.elim⟩
  | .mem .., hc, _, _, _, _ => hc.elim
  | .call _, hc, _, _, _, _ => hc.elim
  | .tc _, hc, _, _, _, _ => hc.elim

theorem out_det : ∀ (e : E) {v v' : V}, Out e v → Out e v' → v = v'
  | .val u, v, v', h, h' => by have h : u = v := h; have h' : u = v' := h'; rw [← h, ← h']
  | .mem u _ _, v, v', h, h' => by have h : u = v := h; have h' : u = v' := h'; rw [← h, ← h']
  | .need b e, v, v', h, h' => out_det e h.2 h'.2
  | .br b e f, v, v', h, h' => by cases b; exact out_det f (h.2 rfl) (h'.2 rfl); exact out_det e (h.1 rfl) (h'.1 rfl)
  | .ldV o k, v, v', ⟨x, e, h⟩, ⟨x', e', h'⟩ => by rw [e] at e'; cases e'; exact out_det (k x) h h'
  | .ldC o k, v, v', ⟨x, e, h⟩, ⟨x', e', h'⟩ => by rw [e] at e'; cases e'; exact out_det (k x) h h'
  | .call o, v, v', ⟨r, e, h⟩, ⟨r', e', h'⟩ => by rw [e] at e'; cases e'; have h : r.1 = v := h; have h' : r.1 = v' := h'; rw [← h, ← h']
  | .tc t, v, v', h, h' => by
    have key : ∀ (t : T) {Q Q' : L → Prop}, wpT t Q → wpT t Q' → ∃ l, Q l ∧ Q' l := by
      intro t
      induction t with
      | leaf l => intro Q Q' h h'; exact ⟨l, h, h'⟩
      | br b t f iht ihf => intro Q Q' h h'; cases b; exact ihf (h.2 rfl) (h'.2 rfl); exact iht (h.1 rfl) (h'.1 rfl)
      | need b t ih => intro Q Q' h h'; exact ih h.2 h'.2
      | optV o k ih => rintro Q Q' ⟨x, e, h⟩ ⟨x', e', h'⟩; rw [e] at e'; cases e'; exact ih x h h'
      | optC o k ih => rintro Q Q' ⟨x, e, h⟩ ⟨x', e', h'⟩; rw [e] at e'; cases e'; exact ih x h h'
      | optR o k ih => rintro Q Q' ⟨x, e, h⟩ ⟨x', e', h'⟩; rw [e] at e'; cases e'; exact ih x h h'
      | bind t k iht ihk => intro Q Q' h h'; obtain ⟨l, h, h'⟩ := iht h h'; exact ihk l h h'
      | loop B S k ihB ihk =>
        rintro Q Q' ⟨n, h⟩ ⟨n', h'⟩
        have : ∀ n n' S, loopN (fun S Q => wpT (B S) Q) Q (fun ex S => wpT (k ex S) Q) n S → loopN (fun S Q => wpT (B S) Q) Q' (fun ex S => wpT (k ex S) Q') n' S → ∃ l, Q l ∧ Q' l := by
          intro n
          induction n with
          | zero => intro n' S h; exact h.elim
          | succ n ih =>
            intro n' S h h'
            cases n' with
            | zero => exact h'.elim
            | succ n' =>
              obtain ⟨l, h, h'⟩ := ihB S h h'
              cases l with
              | val => exact h.elim
              | ret ex S' => cases ex with
                | norm => exact ih n' S' h h'
                | exit i => exact ihk (.exit i) S' h h'
                | ret => exact ihk .ret S' h h'
        exact this n n' S h h'
      | tick v k ih => intro Q Q' h h'; exact ih v h h'
      | step S k ih => intro Q Q' h h'; exact ih S h h'
      | fail => intro Q Q' h; exact h.elim
    obtain ⟨l, h, h'⟩ := key t h h'
    cases l with
    | ret => exact h.elim
    | val u _ _ => have h : u = v := h; have h' : u = v' := h'; rw [← h, ← h']
  | .fail, _, _, h, _ => h.elim

theorem bounds_calm {tm : Tr V} {len most : Nat} {lo hi : Option Opd} {k : Nat → Nat → E} (h : ∀ l u, Calm (k l u)) : Calm (bounds tm len most lo hi k) := by
  unfold bounds
  cases hi with
  | none => cases lo with
    | none => exact h _ _
    | some x => simp only; split; exact h _ _; trivial
  | some y =>
    simp only
    split
    · cases lo with
      | none => exact h _ _
      | some x => simp only [Calm]; split; exact h _ _; trivial
    · trivial

theorem calm_evalI {o : O} {S : St} (hk : kindI Γ o.i ≤ 1) : Calm (evalI Γ o S) := by
  unfold evalI
  generalize o.i = i at hk
  have hbin : ∀ op x y, Calm (binE op x y) := by
    intro op x y
    unfold binE
    split
    · cases op <;> trivial
    · cases op <;> trivial
    · trivial
  have hun : ∀ op x, Calm (unE op x) := by
    intro op x
    unfold unE
    split <;> trivial
  cases i <;> simp only [kindI] at hk <;> first
    | (exfalso; omega)
    | skip
  case bin => exact hbin _ _ _
  case un => exact hun _ _
  case slStr => simp only [e_slStr]; split; exact bounds_calm fun _ _ => trivial; trivial
  case slSl =>
    simp only [e_slSl]
    split
    · refine bounds_calm (k := _) fun l h => ?_
      split <;> first | trivial | exact ⟨trivial, trivial⟩
    · exact bounds_calm fun _ _ => trivial
    · exact bounds_calm fun _ _ => trivial
    · trivial
  case slArr =>
    simp only [e_slArr]
    split
    · refine bounds_calm (k := _) fun l h => ?_
      split <;> first | trivial | exact ⟨trivial, trivial⟩
    · trivial
  case call f args =>
    simp only [e_call, callE]
    split at hk
    · rename_i F kd hg
      rw [hg]
      split at hk <;> first
        | exact fun _ => trivial
        | omega
    · split at hk <;> omega
    · omega
  all_goals
    simp only [e_mov, e_pick, e_eqb, e_nilq, e_eqs, e_conv, e_b2s, e_lea, e_ixA, e_ixS, e_ixV, e_ixStr, e_fld, e_nilc, e_ext, e_load, e_build, e_mkif, e_mkfn, e_len, e_lenS, e_mm, e_add64, e_sub64]
    repeat' split
    all_goals first
      | trivial
      | exact fun _ => trivial

/-- The regions that an operation's operands lead into are there. -/
def KeysOk (tm : Tr V) (hp : Tr Reg) (o : O) : Prop := ∀ x ∈ opds o.i, ∀ j, (∃ p, ev tm x = .ptr j p) ∨ (∃ p n c z, ev tm x = .sl j p n c z) → (hp.get j).isSome = true

/-- What is asked of contracts that read memory: a region that isn't there yet makes no odds to them. -/
def ΓLoc (Γ : Tr Ent) : Prop := ∀ f F, Γ.get f = some (.f F 1) → ∀ (args : List V) (hp : Tr Reg) (j : P2) (r : Reg), hp.get j = none →
  (∀ v ∈ args, ∀ j, (∃ p, v = .ptr j p) ∨ (∃ p n c z, v = .sl j p n c z) → (hp.get j).isSome = true) → pureV (F args (hp.set j (some r)) .h) = pureV (F args hp .h)

theorem readL_fresh {hp : Tr Reg} {j j' : P2} {r : Reg} {off n : Nat} (h : j' ≠ j) : readL (hp.set j (some r)) j' off n = readL hp j' off n := by
  unfold readL; rw [Tr.get_set, if_neg h]
theorem read1_fresh {hp : Tr Reg} {j j' : P2} {r : Reg} {off : Nat} (h : j' ≠ j) : read1 (hp.set j (some r)) j' off = read1 hp j' off := by
  unfold read1; rw [Tr.get_set, if_neg h]

/-- An operation that computes or reads, in a memory that has one region more. -/
theorem evalI_fresh (hΓ : ΓLoc Γ) {tm : Tr V} {hp : Tr Reg} {nx nx' : P2} {o : O} {j : P2} {r : Reg} (hk : kindI Γ o.i ≤ 1) (hj : hp.get j = none) (hok : KeysOk tm hp o) :
    evalI Γ o ⟨tm, hp.set j (some r), nx'⟩ = evalI Γ o ⟨tm, hp, nx⟩ := by
  unfold evalI
  unfold KeysOk at hok
  generalize o.i = i at hk hok
  have hne : ∀ j', (hp.get j').isSome = true → j' ≠ j := fun j' h e => by rw [e, hj] at h; simp at h
  cases i <;> simp only [kindI] at hk <;> first
    | (exfalso; omega)
    | rfl
    | skip
  case load ag sz x =>
    simp only [e_load]
    split
    · rename_i j' p e
      have := hne j' (hok x (by simp [opds]) j' (.inl ⟨p, e⟩))
      simp only [readL_fresh this, read1_fresh this]
    · rfl
  case b2s x =>
    simp only [e_b2s]
    split <;> first
      | rfl
      | (rename_i j' off n c e
         have := hne j' (hok x (by simp [opds]) j' (.inr ⟨_, _, _, _, e⟩))
         simp only [readL_fresh this])
  case slArr n sz x lo hi =>
    simp only [e_slArr]
    split
    · rename_i j' p e
      have := hne j' (hok x (by simp [opds]) j' (.inl ⟨p, e⟩))
      simp only [Tr.get_set, if_neg this]
    · rfl
  case call f args =>
    simp only [e_call, callE]
    split at hk
    · rename_i F kd hg
      simp only [hg]
      split at hk
      · rfl
      · simp only
        congr 1
        refine hΓ f F hg _ hp j r hj fun v hv j' h' => ?_
        obtain ⟨x, hx, rfl⟩ := List.mem_map.1 hv
        exact hok x hx j' h'
      · omega
      · omega
    · split at hk <;> omega
    · omega
end Go.AE

/- An abstract evaluator of translated Go code, third part: how its memory stands to the model's. -/
import Derived.Test.YtmgbeipdeeegoaaGreatDoorAe2
import Derived.Laws.World
import Derived.Laws.Cells
namespace Go.AE
open Go.RowKit

/-- A region's place: block, first cell, how many cells from there on. -/
abbrev Mp := P2 → Option (Nat × Nat × Nat)
def Mp.le (m m' : Mp) : Prop := ∀ j p, m j = some p → m' j = some p
theorem Mp.le_refl (m : Mp) : m.le m := fun _ _ h => h
theorem Mp.le_trans {a b c : Mp} (h : a.le b) (k : b.le c) : a.le c := fun j p e => k j p (h j p e)

mutual
inductive VRel (m : Mp) : V → Value → Prop where
  | un (x : Value) : VRel m .un x
  | bool (b : Bool) : VRel m (.bool b) (.bool b)
  | int (k : IntKind) (n : Int) : VRel m (.int k n) (.int k n)
  | str (s : List UInt8) : VRel m (.str s) (.string ⟨⟨s⟩⟩)
  | nilp : VRel m .nilp (.pointer none)
  | ptr {j : P2} {off b o n : Nat} : m j = some (b, o, n) → VRel m (.ptr j off) (.pointer (some ⟨b, o + off, none⟩))
  | nils : VRel m .nils (.slice none 0 0)
  | sl {j : P2} {off len sz b o n c : Nat} {cap : Option Nat} : m j = some (b, o, n) → len ≤ c → (∀ c0, cap = some c0 → c = c0) → off + c * sz ≤ n →
      VRel m (.sl j off len cap sz) (.slice (some ⟨b, o + off, none⟩) len c)
  | sle {a : Addr} {c : Nat} : VRel m .sle (.slice (some a) 0 c)
  | nilf : VRel m .nilf .nilFunc
  | fn {f : P2} {vs : List V} {xs : List Value} : VRels m vs xs → VRel m (.fn f vs) (.func (.func f.toNat) #[] ⟨xs⟩)
  | nili : VRel m .nili .nilIface
  | iface {t : TypeId} {v : V} {x : Value} : VRel m v x → VRel m (.iface t v) (.iface t x)
  | agg {vs : List V} {xs : List Value} : VRels m vs xs → VRel m (.agg vs) (.agg ⟨xs⟩)
  | tup {vs : List V} {xs : List Value} : VRels m vs xs → VRel m (.tup vs) (.tuple ⟨xs⟩)
inductive VRels (m : Mp) : List V → List Value → Prop where
  | nil : VRels m [] []
  | cons {v : V} {x : Value} {vs : List V} {xs : List Value} : VRel m v x → VRels m vs xs → VRels m (v :: vs) (x :: xs)
end

mutual
theorem VRel.mono {m m' : Mp} (h : m.le m') {v : V} {x : Value} (r : VRel m v x) : VRel m' v x := by
  cases r with
  | un => exact .un _
  | bool => exact .bool _
  | int => exact .int _ _
  | str => exact .str _
  | nilp => exact .nilp
  | ptr e => exact .ptr (h _ _ e)
  | nils => exact .nils
  | sl e a b c => exact .sl (h _ _ e) a b c
  | sle => exact .sle
  | nilf => exact .nilf
  | fn r => exact .fn (VRels.mono h r)
  | nili => exact .nili
  | iface r => exact .iface (VRel.mono h r)
  | agg r => exact .agg (VRels.mono h r)
  | tup r => exact .tup (VRels.mono h r)
theorem VRels.mono {m m' : Mp} (h : m.le m') {v : List V} {x : List Value} (r : VRels m v x) : VRels m' v x := by
  cases r with
  | nil => exact .nil
  | cons a r => exact .cons (VRel.mono h a) (VRels.mono h r)
end

namespace VRels
variable {m : Mp}
theorem length : ∀ {vs : List V} {xs : List Value}, VRels m vs xs → vs.length = xs.length
  | [], _, h => by cases h; rfl
  | _ :: _, _, h => by cases h with | cons _ r => simp [length r]
theorem at_ : ∀ {vs : List V} {xs : List Value} (_ : VRels m vs xs) (i : Nat) {v : V}, vs[i]? = some v → ∃ x, xs[i]? = some x ∧ VRel m v x
  | [], _, _, i, v, h => by simp at h
  | _ :: _, _, r, 0, v, h => by cases r with | cons a _ => simp at h; subst h; exact ⟨_, rfl, a⟩
  | _ :: _, _, r, i + 1, v, h => by cases r with | cons _ r => simp at h ⊢; exact at_ r i h
theorem append : ∀ {vs ws : List V} {xs ys : List Value}, VRels m vs xs → VRels m ws ys → VRels m (vs ++ ws) (xs ++ ys)
  | [], _, _, _, h, k => by cases h; exact k
  | _ :: _, _, _, _, h, k => by cases h with | cons a r => exact .cons a (append r k)
theorem take : ∀ {vs : List V} {xs : List Value} (n : Nat), VRels m vs xs → VRels m (vs.take n) (xs.take n)
  | _, _, 0, _ => by simp; exact .nil
  | [], _, _ + 1, h => by cases h; simp; exact .nil
  | _ :: _, _, n + 1, h => by cases h with | cons a r => simp; exact .cons a (take n r)
theorem drop : ∀ {vs : List V} {xs : List Value} (n : Nat), VRels m vs xs → VRels m (vs.drop n) (xs.drop n)
  | _, _, 0, h => by simpa using h
  | [], _, _ + 1, h => by cases h; simp; exact .nil
  | _ :: _, _, n + 1, h => by cases h with | cons a r => simp; exact drop n r
theorem replicate {v : V} {x : Value} (h : VRel m v x) : ∀ n, VRels m (List.replicate n v) (List.replicate n x)
  | 0 => .nil
  | n + 1 => .cons h (replicate h n)
theorem flatten_replicate {v : List V} {x : List Value} (h : VRels m v x) : ∀ n, VRels m (List.replicate n v).flatten (List.replicate n x).flatten
  | 0 => .nil
  | n + 1 => by simp only [List.replicate_succ, List.flatten_cons]; exact append h (flatten_replicate h n)
theorem map {f : V → V} {g : Value → Value} (h : ∀ v x, VRel m v x → VRel m (f v) (g x)) : ∀ {vs : List V} {xs : List Value}, VRels m vs xs → VRels m (vs.map f) (xs.map g)
  | [], _, r => by cases r; exact .nil
  | _ :: _, _, r => by cases r with | cons a r => exact .cons (h _ _ a) (map h r)
end VRels

theorem okCell_one {m : Mp} {v : V} {x : Value} (r : VRel m v x) (h : okCell v = true) : x.oneCell' = true := by
  cases r <;> first | rfl | simp [okCell] at h
theorem allOk_cons {v : V} {r : List V} : allOk (v :: r) = true ↔ okCell v = true ∧ allOk r = true := by
  simp only [allOk]; cases okCell v <;> simp
theorem allOk_one {m : Mp} : ∀ {vs : List V} {xs : List Value}, VRels m vs xs → allOk vs = true → ∀ x ∈ xs, x.oneCell' = true
  | [], _, r, _, x, hx => by cases r; simp at hx
  | _ :: _, _, r, h, x, hx => by
    cases r with
    | cons a r =>
      rw [allOk_cons] at h
      rcases List.mem_cons.1 hx with rfl | hx
      · exact okCell_one a h.1
      · exact allOk_one r h.2 x hx
theorem cells_one {x : Value} (h : x.oneCell' = true) : x.cells.toList = [x] := by cases x <;> first | rfl | simp [Value.oneCell'] at h
theorem VRel.cells {m : Mp} {v : V} {x : Value} (r : VRel m v x) (h : allOk v.cells = true) : VRels m v.cells x.cells.toList := by
  by_cases hv : ∃ c, v = .agg c
  · obtain ⟨c, rfl⟩ := hv
    cases r with | agg r => exact r
  · have hc : v.cells = [v] := by cases v <;> first | rfl | exact absurd ⟨_, rfl⟩ hv
    rw [hc, allOk_cons] at h
    rw [hc, cells_one (okCell_one r h.1)]
    exact .cons r .nil

/-- A region in the model's memory. -/
def RegRep (B : Nat) (m : Mp) (r : Reg) (b o n : Nat) (w : World) : Prop :=
  r.kd = .dead ∨ ∃ c el fr xs, w.heap[b]? = some (.cells c el fr) ∧ VRels m r.cells xs ∧ (∀ i x, xs[i]? = some x → c[o + i]? = some x) ∧
    (r.kd = .own → o = 0 ∧ n = c.size ∧ B ≤ b ∧ ∀ i, i < c.size → ¬ (fr.1 ≤ i ∧ i < fr.2))

structure HRep (B : Nat) (w0 : World) (m : Mp) (hp : Tr Reg) (w : World) : Prop where
  below : Below B w0 w
  base : B ≤ w0.heap.size
  dom : ∀ j, (m j).isSome = (hp.get j).isSome
  reg : ∀ j r b o n, hp.get j = some r → m j = some (b, o, n) → RegRep B m r b o n w
  sep : ∀ j j' r r' b o n b' o' n', hp.get j = some r → hp.get j' = some r' → r.kd = .own → r'.kd ≠ .dead → j ≠ j' → m j = some (b, o, n) → m j' = some (b', o', n') → b ≠ b'

variable {B : Nat} {w0 : World} {m : Mp} {hp : Tr Reg} {w : World}

theorem HRep.drew (h : HRep B w0 m hp w) : HRep B w0 m hp { w with drawn := w.drawn + 1 } :=
  ⟨h.below.drew, h.base, h.dom, h.reg, h.sep⟩

/-- One cell read. -/
theorem HRep.read1 (h : HRep B w0 m hp w) {j : P2} {off b o n : Nat} (hm : m j = some (b, o, n)) {v : V} (hr : read1 hp j off = some v) :
    ∃ x, w.cell? ⟨b, o + off, none⟩ = some x ∧ VRel m v x := by
  unfold AE.read1 at hr
  cases hj : hp.get j with
  | none => rw [hj] at hr; simp at hr
  | some r =>
    obtain ⟨cells, kd⟩ := r
    rw [hj] at hr
    have hc : cells[off]? = some v := by cases kd <;> simp at hr <;> exact hr
    rcases h.reg j _ b o n hj hm with hd | ⟨c, el, fr, xs, hb, hv, hx, _⟩
    · simp only at hd; subst hd; simp at hr
    · obtain ⟨x, hxi, hvx⟩ := hv.at_ off hc
      exact ⟨x, by simp [World.cell?, hb, hx off x hxi], hvx⟩

/-- A row of cells read. -/
theorem HRep.readL (h : HRep B w0 m hp w) {j : P2} {off b o n k : Nat} (hm : m j = some (b, o, n)) {vs : List V} (hr : readL hp j off k = some vs) :
    ∃ xs, VRels m vs xs ∧ xs.length = k ∧ ∀ (i : Nat) (x : Value), xs[i]? = some x → w.cell? ⟨b, o + off + i, none⟩ = some x := by
  unfold AE.readL at hr
  cases hj : hp.get j with
  | none => rw [hj] at hr; simp at hr
  | some r =>
    obtain ⟨cells, kd⟩ := r
    rw [hj] at hr
    have hc : off + k ≤ cells.length ∧ vs = (cells.drop off).take k := by
      cases kd <;> simp only at hr <;> first
        | (split at hr <;> simp at hr; exact ⟨by assumption, hr.symm⟩)
        | simp at hr
    obtain ⟨hl, rfl⟩ := hc
    rcases h.reg j _ b o n hj hm with hd | ⟨c, el, fr, xs, hb, hv, hx, _⟩
    · simp only at hd; subst hd; simp at hr
    · have hlen := hv.length
      simp only at hlen
      refine ⟨(xs.drop off).take k, (hv.drop off).take k, by simp; omega, fun i x hi => ?_⟩
      have : xs[off + i]? = some x := by
        rw [List.getElem?_take] at hi
        split at hi
        · rw [List.getElem?_drop] at hi; exact hi
        · simp at hi
      have := hx (off + i) x this
      simp [World.cell?, hb]
      rw [show o + off + i = o + (off + i) by omega]; exact this

theorem getElem?_push_lt {α : Type} (a : Array α) (x : α) (k : Nat) (h : k < a.size) : (a.push x)[k]? = a[k]? := by
  rw [Array.getElem?_push, if_neg (by omega)]

noncomputable def Mp.upd (m : Mp) (j : P2) (p : Nat × Nat × Nat) : Mp := fun i => if i = j then some p else m i
theorem Mp.le_upd {m : Mp} {j : P2} {p : Nat × Nat × Nat} (h : m j = none) : m.le (m.upd j p) := by
  intro i q e
  unfold Mp.upd
  split
  · subst i; rw [h] at e; simp at e
  · exact e
theorem Mp.upd_self {m : Mp} {j : P2} {p : Nat × Nat × Nat} : m.upd j p j = some p := by simp [Mp.upd]

theorem HRep.noKey (h : HRep B w0 m hp w) {j : P2} (hj : hp.get j = none) : m j = none := by
  have := h.dom j; rw [hj] at this; simpa using this

theorem RegRep.world {r : Reg} {b o n : Nat} {w' : World} (h : RegRep B m r b o n w) (e : w'.heap[b]? = w.heap[b]?) : RegRep B m r b o n w' := by
  rcases h with h | ⟨c, el, fr, xs, hb, rest⟩
  · exact .inl h
  · exact .inr ⟨c, el, fr, xs, by rw [e]; exact hb, rest⟩
theorem RegRep.mono {r : Reg} {b o n : Nat} {m' : Mp} (hm : m.le m') (h : RegRep B m r b o n w) : RegRep B m' r b o n w := by
  rcases h with h | ⟨c, el, fr, xs, hb, hv, rest⟩
  · exact .inl h
  · exact .inr ⟨c, el, fr, xs, hb, hv.mono hm, rest⟩
theorem RegRep.lt {r : Reg} {b o n : Nat} (h : RegRep B m r b o n w) (hd : r.kd ≠ .dead) : b < w.heap.size := by
  rcases h with h | ⟨c, el, fr, xs, hb, _⟩
  · exact absurd h hd
  · exact (Array.getElem?_eq_some_iff.1 hb).1

/-- A new block is a new region. -/
theorem HRep.alloc (h : HRep B w0 m hp w) {j : P2} (hj : hp.get j = .none) {cells : List V} {xs : List Value} {c : Array Value} {el : TypeId} {fr : Nat × Nat}
    (hv : VRels m cells xs) (hx : ∀ (i : Nat) (x : Value), xs[i]? = some x → c[i]? = some x) (hf : ∀ i, i < c.size → ¬ (fr.1 ≤ i ∧ i < fr.2)) :
    HRep B w0 (m.upd j (w.heap.size, 0, c.size)) (hp.set j (some ⟨cells, .own⟩)) { w with heap := w.heap.push (.cells c el fr) } := by
  have hm := h.noKey hj
  have hle : m.le (m.upd j (w.heap.size, 0, c.size)) := Mp.le_upd hm
  have hB : B ≤ w.heap.size := Nat.le_trans h.base h.below.size
  refine ⟨h.below.trans ⟨rfl, rfl, rfl, by simp, fun k hk => getElem?_push_lt _ _ _ (by omega)⟩, h.base, fun i => ?_, fun i r b o n hi hmi => ?_, ?_⟩
  · rw [Tr.get_set]
    unfold Mp.upd
    split
    · rfl
    · exact h.dom i
  · rw [Tr.get_set] at hi
    unfold Mp.upd at hmi
    by_cases e : i = j
    · rw [if_pos e] at hi hmi
      cases hi; cases hmi
      exact .inr ⟨c, el, fr, xs, by simp, hv.mono hle, fun i x e => by rw [Nat.zero_add]; exact hx i x e, fun _ => ⟨rfl, rfl, hB, hf⟩⟩
    · rw [if_neg e] at hi hmi
      have hr := h.reg i r b o n hi hmi
      by_cases hd : r.kd = .dead
      · exact .inl hd
      · exact (hr.mono hle).world (getElem?_push_lt _ _ _ (hr.lt hd))
  · intro i i' r r' b o n b' o' n' hi hi' ho hd hne hb hb'
    rw [Tr.get_set] at hi hi'
    unfold Mp.upd at hb hb'
    by_cases e : i = j
    · rw [if_pos e] at hi hb
      rw [if_neg (fun e' => hne (e.trans e'.symm))] at hi' hb'
      have := (h.reg i' r' b' o' n' hi' hb').lt hd
      cases hb
      omega
    · rw [if_neg e] at hi hb
      have hlt := (h.reg i r b o n hi hb).lt (by rw [ho]; exact fun h => by cases h)
      by_cases e' : i' = j
      · rw [if_pos e'] at hi' hb'
        cases hb'
        omega
      · rw [if_neg e'] at hi' hb'
        exact h.sep i i' r r' b o n b' o' n' hi hi' ho hd hne hb hb'

/-- Cells stored, one behind the other. -/
theorem run_storeCells {P : Program} (b o : Nat) (el : TypeId) (fr : Nat × Nat) : ∀ (vs : List Value) (i : Nat) (c : Array Value) (w : World),
    w.heap[b]? = some (.cells c el fr) → o + i + vs.length ≤ c.size → (∀ k, o + i ≤ k → k < o + i + vs.length → ¬ (fr.1 ≤ k ∧ k < fr.2)) → (∀ v ∈ vs, v.oneCell' = true) →
    ∃ w' c', (storeCells ⟨b, o, none⟩ vs i).run P w = .ok () w' ∧ w'.heap[b]? = some (.cells c' el fr) ∧ c'.size = c.size ∧
      (∀ k, c'[k]? = if o + i ≤ k ∧ k < o + i + vs.length then vs[k - (o + i)]? else c[k]?) ∧
      (∀ k, k ≠ b → w'.heap[k]? = w.heap[k]?) ∧ w'.heap.size = w.heap.size ∧ w'.os = w.os ∧ w'.tape = w.tape ∧ w'.output = w.output
  | [], i, c, w, hb, _, _, _ => ⟨w, c, rfl, hb, rfl, fun k => by rw [if_neg (by simp)], fun _ _ => rfl, rfl, rfl, rfl, rfl⟩
  | v :: vs, i, c, w, hb, hl, hf, h1 => by
    simp only [List.length_cons] at hl hf
    have hadd : (Addr.add ⟨b, o, none⟩ i) = ⟨b, o + i, none⟩ := by unfold Addr.add; split <;> simp_all
    have hv := h1 v List.mem_cons_self
    have hcell : (w.cell? ⟨b, o + i, none⟩) = some (c[o + i]'(by omega)) := by simp [World.cell?, hb]
    have hfz : w.frozen? ⟨b, o + i, none⟩ = false := by
      have := hf (o + i) (by omega) (by omega)
      simp only [World.frozen?, hb]
      simpa using this
    have hst : (store ⟨b, o + i, none⟩ v).run P w = .ok () (w.setCell ⟨b, o + i, none⟩ v) := by rw [run_store P w _ v .plain hv, hcell, hfz]; rfl
    have hb' : (w.setCell ⟨b, o + i, none⟩ v).heap[b]? = some (.cells (c.setIfInBounds (o + i) v) el fr) := by
      simp [World.setCell, Array.getElem?_modify, hb]
    obtain ⟨w', c', hrun, hbw, hs, hc, hk, hsz, h2, h3, h4⟩ := run_storeCells (P := P) b o el fr vs (i + 1) (c.setIfInBounds (o + i) v) (w.setCell ⟨b, o + i, none⟩ v) hb'
      (by simp only [Array.size_setIfInBounds]; omega) (fun k a b => hf k (by omega) (by omega)) (fun x hx => h1 x (List.mem_cons_of_mem _ hx))
    refine ⟨w', c', ?_, hbw, by simpa using hs, fun k => ?_, fun k hkb => ?_, ?_, h2, h3, h4⟩
    · simp only [storeCells, Sem.run_bind, hadd, hst]; exact hrun
    · rw [hc k]
      by_cases e : k = o + i
      · subst e; rw [if_neg (by omega), if_pos (by simp), Array.getElem?_setIfInBounds, if_pos rfl, if_pos (by omega), Nat.sub_self]; rfl
      · by_cases e2 : o + (i + 1) ≤ k ∧ k < o + (i + 1) + vs.length
        · rw [if_pos e2, if_pos (by simp; omega)]
          obtain ⟨q, rfl⟩ : ∃ q, k = o + i + 1 + q := ⟨k - (o + i + 1), by omega⟩
          rw [show o + i + 1 + q - (o + (i + 1)) = q by omega, show o + i + 1 + q - (o + i) = q + 1 by omega]; simp
        · rw [if_neg e2, if_neg (by simp; omega), Array.getElem?_setIfInBounds, if_neg (by omega)]
    · rw [hk k hkb]; simp only [World.setCell, Array.getElem?_modify]; rw [if_neg (by omega)]
    · rw [hsz]; simp [World.setCell]

theorem splice_get {α : Type} (cells : List α) (off : Nat) (new : List α) (h : off + new.length ≤ cells.length) (k : Nat) :
    (splice cells off new)[k]? = if off ≤ k ∧ k < off + new.length then new[k - off]? else cells[k]? := by
  unfold splice
  by_cases h1 : k < off
  · rw [if_neg (by omega), List.append_assoc, List.getElem?_append_left (by simp; omega)]; simp [h1]
  · by_cases h2 : k < off + new.length
    · rw [if_pos (by omega), List.append_assoc, List.getElem?_append_right (by simp; omega)]
      rw [List.length_take, Nat.min_eq_left (by omega), List.getElem?_append_left (by omega)]
    · rw [if_neg (by omega), List.getElem?_append_right (by simp; omega)]
      simp only [List.length_append, List.length_take, List.getElem?_drop]
      rw [Nat.min_eq_left (by omega), show off + new.length + (k - (off + new.length)) = k by omega]

theorem VRels.of_get : ∀ {vs : List V} {xs : List Value}, vs.length = xs.length → (∀ (i : Nat) (v : V) (x : Value), vs[i]? = some v → xs[i]? = some x → VRel m v x) → VRels m vs xs
  | [], [], _, _ => .nil
  | [], _ :: _, h, _ => by simp at h
  | _ :: _, [], h, _ => by simp at h
  | v :: vs, x :: xs, h, k => .cons (k 0 v x rfl rfl) (VRels.of_get (by simpa using h) fun i v x a b => k (i + 1) v x (by simpa using a) (by simpa using b))

/-- A region written. -/
theorem HRep.write {P : Program} (h : HRep B w0 m hp w) {j : P2} {off b o n : Nat} (hm : m j = some (b, o, n)) {new : List V} {ys : List Value} {cs : List V}
    (hw : write hp j off new = some cs) (hv : VRels m new ys) (h1 : ∀ y ∈ ys, y.oneCell' = true) :
    ∃ w', (storeCells ⟨b, o + off, none⟩ ys).run P w = .ok () w' ∧ HRep B w0 m (hp.set j (some ⟨cs, .own⟩)) w' := by
  unfold AE.write at hw
  cases hj : hp.get j with
  | none => rw [hj] at hw; simp at hw
  | some r =>
    obtain ⟨cells, kd⟩ := r
    rw [hj] at hw
    cases kd with
    | ro => simp at hw
    | dead => simp at hw
    | own =>
      simp only at hw
      split at hw
      case isFalse => simp at hw
      rename_i hlen
      cases hw
      rcases h.reg j _ b o n hj hm with hd | ⟨c, el, fr, xs, hb, hvx, hx, hown⟩
      · simp at hd
      · obtain ⟨rfl, rfl, hB, hfr⟩ := hown rfl
        have hvl := hvx.length
        have hyl := hv.length
        simp only at hvl
        have hcs : xs.length ≤ c.size := by
          rcases Nat.lt_or_ge c.size xs.length with hlt | hge
          · have hq := hx c.size xs[c.size] (by simp [hlt])
            simp at hq
          · exact hge
        obtain ⟨w', c', hrun, hbw, hs, hc, hk, hsz, e1, e2, e3⟩ := run_storeCells (P := P) b (0 + off) el fr ys 0 c w hb (by omega) (fun k a b => hfr k (by omega)) h1
        refine ⟨w', hrun, ⟨h.below.trans ⟨e1, e2, e3, by omega, fun k hkB => hk k (by omega)⟩, h.base, fun i => ?_, fun i r b' o' n' hi hmi => ?_, ?_⟩⟩
        · rw [Tr.get_set]
          split
          · rename_i e; rw [e, h.dom j, hj]; rfl
          · exact h.dom i
        · rw [Tr.get_set] at hi
          by_cases e : i = j
          · rw [if_pos e] at hi
            subst e
            rw [hm] at hmi
            cases hi; cases hmi
            refine .inr ⟨c', el, fr, (xs.take off ++ ys ++ xs.drop (off + ys.length)), hbw, ?_, fun q x hq => ?_, fun _ => ⟨rfl, hs.symm, hB, fun q hq => hfr q (by omega)⟩⟩
            · unfold splice
              rw [hyl]
              exact ((hvx.take off).append hv).append (hvx.drop _)
            · rw [hc]
              simp only [Nat.zero_add, Nat.add_zero]
              by_cases q1 : q < off
              · rw [if_neg (by omega)]
                rw [List.append_assoc, List.getElem?_append_left (by simp; omega)] at hq
                rw [List.getElem?_take, if_pos q1] at hq
                have := hx q x hq; rwa [Nat.zero_add] at this
              · by_cases q2 : q < off + ys.length
                · rw [if_pos (by omega)]
                  rw [List.append_assoc, List.getElem?_append_right (by simp; omega)] at hq
                  rw [List.length_take, Nat.min_eq_left (by omega), List.getElem?_append_left (by omega)] at hq
                  exact hq
                · rw [if_neg (by omega)]
                  rw [List.getElem?_append_right (by simp; omega)] at hq
                  simp only [List.length_append, List.length_take, List.getElem?_drop] at hq
                  rw [Nat.min_eq_left (by omega), show off + ys.length + (q - (off + ys.length)) = q by omega] at hq
                  have := hx q x hq; rwa [Nat.zero_add] at this
          · rw [if_neg e] at hi
            have hr := h.reg i r b' o' n' hi hmi
            by_cases hd : r.kd = .dead
            · exact .inl hd
            · exact hr.world (hk b' (fun eb => h.sep j i _ _ b 0 c.size b' o' n' hj hi rfl hd (fun e' => e e'.symm) hm hmi eb.symm))
        · intro i i' r r' b1 o1 n1 b2 o2 n2 hi hi' ho hd hne hb1 hb2
          rw [Tr.get_set] at hi hi'
          by_cases e : i = j
          · rw [if_pos e] at hi
            rw [if_neg (fun e' => hne (e.trans e'.symm))] at hi'
            subst e
            exact h.sep i i' _ r' b1 o1 n1 b2 o2 n2 hj hi' rfl hd hne hb1 hb2
          · rw [if_neg e] at hi
            by_cases e' : i' = j
            · rw [if_pos e'] at hi'
              subst e'
              exact h.sep i i' r _ b1 o1 n1 b2 o2 n2 hi hj ho (by simp) hne hb1 hb2
            · rw [if_neg e'] at hi'
              exact h.sep i i' r r' b1 o1 n1 b2 o2 n2 hi hi' ho hd hne hb1 hb2

/-- A region goes over to a new key, with other contents: the elder key is dead. -/
theorem HRep.rename (h : HRep B w0 m hp w) {j j' : P2} {b o n : Nat} (hm : m j = some (b, o, n)) {cells : List V} (hj : hp.get j = some ⟨cells, .own⟩) (hj' : hp.get j' = .none) :
    HRep B w0 (m.upd j' (b, o, n)) ((hp.set j (some ⟨[], .dead⟩)).set j' (some ⟨cells, .own⟩)) w := by
  have hm' := h.noKey hj'
  have hle : m.le (m.upd j' (b, o, n)) := Mp.le_upd hm'
  have hne : j ≠ j' := fun e => by rw [e, hj'] at hj; simp at hj
  refine ⟨h.below, h.base, fun i => ?_, fun i r b1 o1 n1 hi hmi => ?_, ?_⟩
  · rw [Tr.get_set, Tr.get_set]
    unfold Mp.upd
    split
    · rfl
    · split
      · rename_i e; rw [e, hm]; rfl
      · exact h.dom i
  · rw [Tr.get_set, Tr.get_set] at hi
    unfold Mp.upd at hmi
    by_cases e : i = j'
    · rw [if_pos e] at hi hmi
      cases hi; cases hmi
      exact (h.reg j _ b o n hj hm).mono hle
    · rw [if_neg e] at hi hmi
      by_cases e2 : i = j
      · rw [if_pos e2] at hi
        cases hi
        exact .inl rfl
      · rw [if_neg e2] at hi
        exact (h.reg i r b1 o1 n1 hi hmi).mono hle
  · intro i i' r r' b1 o1 n1 b2 o2 n2 hi hi' ho hd hnei hb1 hb2
    rw [Tr.get_set, Tr.get_set] at hi hi'
    unfold Mp.upd at hb1 hb2
    by_cases e : i = j'
    · rw [if_pos e] at hi hb1
      rw [if_neg (fun e' => hnei (e.trans e'.symm))] at hi' hb2
      cases hb1
      by_cases e2 : i' = j
      · rw [if_pos e2] at hi'; cases hi'; simp at hd
      · rw [if_neg e2] at hi'
        exact h.sep j i' _ r' b o n b2 o2 n2 hj hi' rfl hd (fun e => e2 e.symm) hm hb2
    · rw [if_neg e] at hi hb1
      by_cases e2 : i = j
      · rw [if_pos e2] at hi; cases hi; simp at ho
      · rw [if_neg e2] at hi
        by_cases e3 : i' = j'
        · rw [if_pos e3] at hi' hb2
          cases hb2
          exact h.sep i j r _ b1 o1 n1 b o n hi hj ho (by simp) e2 hb1 hm
        · rw [if_neg e3] at hi' hb2
          by_cases e4 : i' = j
          · rw [if_pos e4] at hi'; cases hi'; simp at hd
          · rw [if_neg e4] at hi'
            exact h.sep i i' r r' b1 o1 n1 b2 o2 n2 hi hi' ho hd hnei hb1 hb2

/-- An own region: fewer of its cells, or more of them of which nothing is known, are told. -/
theorem HRep.recell (h : HRep B w0 m hp w) {j : P2} {b o n : Nat} (hm : m j = some (b, o, n)) {cells cells' : List V} (hj : hp.get j = some ⟨cells, .own⟩) (hl : cells'.length ≤ n)
    (hc : ∀ (i : Nat) (v : V), cells'[i]? = some v → cells[i]? = some v ∨ v = .un) : HRep B w0 m (hp.set j (some ⟨cells', .own⟩)) w := by
  refine ⟨h.below, h.base, fun i => ?_, fun i r b' o' n' hi hmi => ?_, ?_⟩
  · rw [Tr.get_set]
    split
    · rename_i e; rw [e, h.dom j, hj]; rfl
    · exact h.dom i
  · rw [Tr.get_set] at hi
    by_cases e : i = j
    · rw [if_pos e] at hi
      subst e
      rw [hm] at hmi
      cases hi; cases hmi
      rcases h.reg i _ b o n hj hm with hd | ⟨c, el, fr, xs, hb, hv, hx, hown⟩
      · simp at hd
      · obtain ⟨rfl, rfl, hB, hfr⟩ := hown rfl
        refine .inr ⟨c, el, fr, c.toList.take cells'.length, hb, VRels.of_get (by simp; omega) (fun q v x hq hqx => ?_), fun q x hq => ?_, fun _ => ⟨rfl, rfl, hB, hfr⟩⟩
        · rcases hc q v hq with hq' | rfl
          · obtain ⟨x', hx', hvx⟩ := hv.at_ q hq'
            have := hx q x' hx'
            rw [List.getElem?_take] at hqx
            split at hqx
            · rw [Nat.zero_add] at this
              rw [Array.getElem?_toList, this] at hqx
              cases hqx
              exact hvx
            · simp at hqx
          · exact .un _
        · rw [List.getElem?_take] at hq
          split at hq
          · rw [Nat.zero_add]; simpa using hq
          · simp at hq
    · rw [if_neg e] at hi
      exact h.reg i r b' o' n' hi hmi
  · intro i i' r r' b1 o1 n1 b2 o2 n2 hi hi' ho hd hne hb1 hb2
    rw [Tr.get_set] at hi hi'
    by_cases e : i = j
    · rw [if_pos e] at hi
      rw [if_neg (fun e' => hne (e.trans e'.symm))] at hi'
      subst e
      exact h.sep i i' _ r' b1 o1 n1 b2 o2 n2 hj hi' rfl hd hne hb1 hb2
    · rw [if_neg e] at hi
      by_cases e' : i' = j
      · rw [if_pos e'] at hi'
        subst e'
        exact h.sep i i' r _ b1 o1 n1 b2 o2 n2 hi hj ho (by simp) hne hb1 hb2
      · rw [if_neg e'] at hi'
        exact h.sep i i' r r' b1 o1 n1 b2 o2 n2 hi hi' ho hd hne hb1 hb2

/-- A region that is looked at no more. -/
theorem HRep.kill (h : HRep B w0 m hp w) {j : P2} {r : Reg} (hj : hp.get j = some r) : HRep B w0 m (hp.set j (some ⟨[], .dead⟩)) w := by
  refine ⟨h.below, h.base, fun i => ?_, fun i r b' o' n' hi hmi => ?_, ?_⟩
  · rw [Tr.get_set]
    split
    · rename_i e; rw [e, h.dom j, hj]; rfl
    · exact h.dom i
  · rw [Tr.get_set] at hi
    by_cases e : i = j
    · rw [if_pos e] at hi; cases hi; exact .inl rfl
    · rw [if_neg e] at hi; exact h.reg i r b' o' n' hi hmi
  · intro i i' r r' b1 o1 n1 b2 o2 n2 hi hi' ho hd hne hb1 hb2
    rw [Tr.get_set] at hi hi'
    by_cases e : i = j
    · rw [if_pos e] at hi; cases hi; simp at ho
    · rw [if_neg e] at hi
      by_cases e' : i' = j
      · rw [if_pos e'] at hi'; cases hi'; simp at hd
      · rw [if_neg e'] at hi'
        exact h.sep i i' r r' b1 o1 n1 b2 o2 n2 hi hi' ho hd hne hb1 hb2
end Go.AE

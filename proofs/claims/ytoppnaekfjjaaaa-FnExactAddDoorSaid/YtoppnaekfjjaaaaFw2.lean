/- The reflective executor, part 2: how abstract states stand for the machine's memory. -/
import Derived.Test.YtoppnaekfjjaaaaFw1
set_option linter.unusedVariables false
set_option autoImplicit false
namespace Go.Fx
open Go

/-! ### 1. Lists -/
theorem view_length {α : Type} (w : Win) (l : List α) : (w.view l).length = w.len l.length := by
  cases w <;> simp [Win.view, Win.len]
theorem len_le (w : Win) (n : Nat) (h : w.ok n) : w.off + w.len n ≤ n := by
  cases w <;> simp [Win.off, Win.len, Win.ok] at * <;> omega
theorem view_eq {α : Type} (w : Win) (l : List α) : w.view l = (l.drop w.off).take (w.len l.length) := by
  cases w <;> simp [Win.view, Win.off, Win.len]
  rw [List.take_of_length_le (by simp)]

theorem enc_length (e : EK) (x : e.den) : (e.enc x).length = e.sz := by cases e <;> rfl
theorem encAll_length (e : EK) (l : List e.den) : (encAll e l).length = l.length * e.sz := by
  induction l with
  | nil => simp [encAll]
  | cons x l ih =>
    simp only [encAll, List.flatMap_cons, List.length_append, enc_length] at *
    rw [ih, List.length_cons, Nat.succ_mul, Nat.add_comm]
theorem encAll_append (e : EK) (l m : List e.den) : encAll e (l ++ m) = encAll e l ++ encAll e m := by simp [encAll]
theorem encAll_nil (e : EK) : encAll e [] = [] := rfl
theorem sz_pos (e : EK) : 0 < e.sz := by cases e <;> simp [EK.sz]
theorem encAll_drop (e : EK) (l : List e.den) (i : Nat) : encAll e (l.drop i) = (encAll e l).drop (i * e.sz) := by
  induction i generalizing l with
  | zero => simp
  | succ i ih =>
    cases l with
    | nil => simp [encAll]
    | cons x l =>
      have : encAll e (x :: l) = e.enc x ++ encAll e l := by simp [encAll]
      rw [List.drop_succ_cons, ih, this, Nat.succ_mul, Nat.add_comm, ← List.drop_drop, List.drop_append_of_le_length (by rw [enc_length]; omega)]
      rw [List.drop_of_length_le (l := e.enc x) (by rw [enc_length]; omega), List.nil_append]
theorem encAll_take (e : EK) (l : List e.den) (i : Nat) : encAll e (l.take i) = (encAll e l).take (i * e.sz) := by
  induction i generalizing l with
  | zero => simp [encAll]
  | succ i ih =>
    cases l with
    | nil => simp [encAll]
    | cons x l =>
      have h : ∀ m, encAll e (x :: m) = e.enc x ++ encAll e m := fun m => by simp [encAll]
      rw [List.take_succ_cons, h, ih, h, Nat.succ_mul, Nat.add_comm, List.take_append, enc_length, Nat.add_sub_cancel_left]
      rw [List.take_of_length_le (l := e.enc x) (by rw [enc_length]; omega)]
theorem encAll_view (e : EK) (w : Win) (l : List e.den) : encAll e (w.view l) = ((encAll e l).drop (w.off * e.sz)).take (w.len l.length * e.sz) := by
  rw [view_eq, encAll_take, encAll_drop]
/-- The cells of an element in a row. -/
theorem encAll_get (e : EK) (l : List e.den) (i j : Nat) (hi : i < l.length) (hj : j < e.sz) : (encAll e l)[i * e.sz + j]? = (e.enc (l.getD i e.dflt))[j]? := by
  induction l generalizing i with
  | nil => simp at hi
  | cons x l ih =>
    have h : encAll e (x :: l) = e.enc x ++ encAll e l := by simp [encAll]
    rw [h]
    cases i with
    | zero => rw [List.getElem?_append_left (by rw [enc_length]; omega)]; simp
    | succ i =>
      rw [List.getElem?_append_right (by rw [enc_length, Nat.succ_mul]; omega), enc_length]
      have : (i + 1) * e.sz + j - e.sz = i * e.sz + j := by rw [Nat.succ_mul]; omega
      rw [this, ih i (by simpa using hi)]
      simp

theorem add_spot (b o n : Nat) : (⟨b, o, none⟩ : Addr).add n = ⟨b, o + n, none⟩ := by
  unfold Addr.add; split <;> simp_all

/-! ### 2. What stands for what -/
def bsOf (w : World) (b : Nat) : Nat := match w.heap[b]? with | some (.cells c _ _) => c.size | _ => 0

structure Ctx where
  objs : Nat → Option AO
  φ : Nat → Option (Nat × Nat)
  seen : Nat → Bool
  bs : Nat → Nat

def Ctx.slOk (Γ : Ctx) (h : Nat) (w : Win) (v : Value) : Prop :=
  match Γ.objs h with
  | some ⟨ro, .row e l⟩ => w.ok l.length ∧ ∃ A cap, v = .slice A (w.len l.length) cap ∧ (w.len l.length ≤ cap ∧ l.length ≤ w.off + cap) ∧ cap ≤ maxLen ∧
      (cap = 0 ∨ ∃ b o, Γ.φ h = some (b, o) ∧ A = some ⟨b, o + w.off * e.sz, none⟩ ∧ (ro = false → o + (w.off + cap) * e.sz ≤ Γ.bs b))
  | _ => True
def Ctx.ptrOk (Γ : Ctx) (h i : Nat) (v : Value) : Prop :=
  match Γ.objs h with
  | some ⟨_, .cells _⟩ => ∃ b o, Γ.φ h = some (b, o) ∧ v = .pointer (some ⟨b, o + i, none⟩)
  | _ => True
def Ctx.pelOk (Γ : Ctx) (h i j : Nat) (v : Value) : Prop :=
  match Γ.objs h with
  | some ⟨_, .row e l⟩ => i < l.length ∧ ∃ b o, Γ.φ h = some (b, o) ∧ v = .pointer (some ⟨b, o + i * e.sz + j, none⟩)
  | some ⟨_, .arr n l⟩ => i < n ∧ ∃ b o, Γ.φ h = some (b, o) ∧ v = .pointer (some ⟨b, o + i + j, none⟩)
  | _ => True

mutual
def SV.rep (Γ : Ctx) : SV → Value → Prop
  | .top, _ => True
  | .bool b, v => v = .bool b
  | .int k n, v => v = .int k n
  | .str s, v => v = .string s
  | .nil, v => v = .slice none 0 0
  | .nilfn, v => v = .nilFunc
  | .sl h w, v => Γ.seen h = true ∧ (∃ A n c, v = .slice A n c) ∧ Γ.slOk h w v
  | .ptr h i, v => Γ.seen h = true ∧ (∃ a, v = .pointer a) ∧ Γ.ptrOk h i v
  | .pel h i j, v => Γ.seen h = true ∧ (∃ a, v = .pointer a) ∧ Γ.pelOk h i j v
  | .fn f caps, v => ∃ vs : List Value, v = .func (.func f) #[] vs.toArray ∧ SV.repL Γ caps vs
  | .agg cs, v => ∃ vs : List Value, v = .agg vs.toArray ∧ SV.repL Γ cs vs
  | .ints n l, v => l.length = n ∧ v = .agg (l.map (Value.int .i64)).toArray
  | .tup cs, v => ∃ vs : List Value, v = .tuple vs.toArray ∧ SV.repL Γ cs vs
def SV.repL (Γ : Ctx) : List SV → List Value → Prop
  | [], vs => vs = []
  | c :: cs, vs => ∃ x xs, vs = x :: xs ∧ SV.rep Γ c x ∧ SV.repL Γ cs xs
end

structure Ctx.le (Γ Γ' : Ctx) : Prop where
  seen : ∀ h, Γ.seen h = true → Γ'.seen h = true
  sl : ∀ h w v, Γ.seen h = true → Γ.slOk h w v → Γ'.slOk h w v
  ptr : ∀ h i v, Γ.seen h = true → Γ.ptrOk h i v → Γ'.ptrOk h i v
  pel : ∀ h i j v, Γ.seen h = true → Γ.pelOk h i j v → Γ'.pelOk h i j v

theorem Ctx.le.refl (Γ : Ctx) : Γ.le Γ := ⟨fun _ h => h, fun _ _ _ _ h => h, fun _ _ _ _ h => h, fun _ _ _ _ _ h => h⟩
theorem Ctx.le.trans {A B C : Ctx} (h : A.le B) (k : B.le C) : A.le C :=
  ⟨fun x hx => k.seen x (h.seen x hx), fun x w v hx hv => k.sl x w v (h.seen x hx) (h.sl x w v hx hv),
   fun x i v hx hv => k.ptr x i v (h.seen x hx) (h.ptr x i v hx hv), fun x i j v hx hv => k.pel x i j v (h.seen x hx) (h.pel x i j v hx hv)⟩

mutual
theorem SV.rep_le {Γ Γ' : Ctx} (h : Γ.le Γ') : ∀ (c : SV) (v : Value), c.rep Γ v → c.rep Γ' v
  | .top, _, _ => trivial
  | .bool _, _, r => r
  | .int _ _, _, r => r
  | .str _, _, r => r
  | .nil, _, r => r
  | .nilfn, _, r => r
  | .sl x w, v, r => ⟨h.seen x r.1, r.2.1, h.sl x w v r.1 r.2.2⟩
  | .ptr x i, v, r => ⟨h.seen x r.1, r.2.1, h.ptr x i v r.1 r.2.2⟩
  | .pel x i j, v, r => ⟨h.seen x r.1, r.2.1, h.pel x i j v r.1 r.2.2⟩
  | .fn f caps, v, r => by
    obtain ⟨vs, hv, hr⟩ := r
    exact ⟨vs, hv, SV.repL_le h caps vs hr⟩
  | .agg cs, v, r => by
    obtain ⟨vs, hv, hr⟩ := r
    exact ⟨vs, hv, SV.repL_le h cs vs hr⟩
  | .ints _ _, _, r => r
  | .tup cs, v, r => by
    obtain ⟨vs, hv, hr⟩ := r
    exact ⟨vs, hv, SV.repL_le h cs vs hr⟩
theorem SV.repL_le {Γ Γ' : Ctx} (h : Γ.le Γ') : ∀ (cs : List SV) (vs : List Value), SV.repL Γ cs vs → SV.repL Γ' cs vs
  | [], _, r => r
  | c :: cs, vs, r => by
    obtain ⟨x, xs, hv, h1, h2⟩ := r
    exact ⟨x, xs, hv, SV.rep_le h c x h1, SV.repL_le h cs xs h2⟩
end

theorem repL_length {Γ : Ctx} : ∀ {cs : List SV} {vs : List Value}, SV.repL Γ cs vs → cs.length = vs.length
  | [], vs, r => by simp [SV.repL] at r; simp [r]
  | c :: cs, vs, r => by
    obtain ⟨x, xs, rfl, _, h2⟩ := r
    simp [repL_length h2]
theorem repL_get {Γ : Ctx} : ∀ {cs : List SV} {vs : List Value}, SV.repL Γ cs vs → ∀ (i : Nat) (c : SV), cs[i]? = some c → ∃ v, vs[i]? = some v ∧ c.rep Γ v
  | [], vs, r, i, c, h => by simp at h
  | c :: cs, vs, r, i, d, h => by
    obtain ⟨x, xs, rfl, h1, h2⟩ := r
    cases i with
    | zero => simp at h; subst h; exact ⟨x, rfl, h1⟩
    | succ i => simp at h; simpa using repL_get h2 i d h
theorem repL_of_get {Γ : Ctx} : ∀ {cs : List SV} {vs : List Value}, cs.length = vs.length → (∀ (i : Nat) (c : SV) (v : Value), cs[i]? = some c → vs[i]? = some v → c.rep Γ v) → SV.repL Γ cs vs
  | [], [], _, _ => rfl
  | c :: cs, [], h, _ => by simp at h
  | [], v :: vs, h, _ => by simp at h
  | c :: cs, v :: vs, h, k => ⟨v, vs, rfl, k 0 c v rfl rfl, repL_of_get (by simpa using h) fun i c' v' hc hv => k (i + 1) c' v' (by simpa using hc) (by simpa using hv)⟩
theorem repL_append {Γ : Ctx} : ∀ {cs ds : List SV} {vs us : List Value}, SV.repL Γ cs vs → SV.repL Γ ds us → SV.repL Γ (cs ++ ds) (vs ++ us)
  | [], ds, vs, us, h, k => by simp [SV.repL] at h; subst h; simpa using k
  | c :: cs, ds, vs, us, h, k => by
    obtain ⟨x, xs, rfl, h1, h2⟩ := h
    exact ⟨x, xs ++ us, rfl, h1, repL_append h2 k⟩

theorem rep_oneCell {Γ : Ctx} {c : SV} {v : Value} (h : c.cellable = true) (r : c.rep Γ v) : v.oneCell' = true := by
  cases c <;> simp [SV.cellable] at h <;> simp [SV.rep] at r
  all_goals first
    | (subst r; rfl)
    | (obtain ⟨vs, rfl, _⟩ := r; rfl)
    | (obtain ⟨_, ⟨A, n, c, rfl⟩, _⟩ := r; rfl)
    | (obtain ⟨_, ⟨a, rfl⟩, _⟩ := r; rfl)

theorem repL_oneCell {Γ : Ctx} : ∀ {cs : List SV} {vs : List Value}, cs.all SV.cellable = true → SV.repL Γ cs vs → ∀ v ∈ vs, v.oneCell' = true
  | [], vs, _, r => by simp [SV.repL] at r; simp [r]
  | c :: cs, vs, h, r => by
    obtain ⟨x, xs, rfl, h1, h2⟩ := r
    simp only [List.all_cons, Bool.and_eq_true] at h
    intro v hv
    rcases List.mem_cons.1 hv with rfl | hv
    · exact rep_oneCell h.1 h1
    · exact repL_oneCell h.2 h2 v hv
/-- The cells of a value. -/
theorem svCells_rep {Γ : Ctx} {c : SV} {v : Value} (h : (svCells c).all SV.cellable = true) (r : c.rep Γ v) : SV.repL Γ (svCells c) v.cells.toList ∧ ∀ u ∈ v.cells.toList, u.oneCell' = true := by
  cases c
  case agg cs =>
    obtain ⟨vs, rfl, hr⟩ := r
    exact ⟨by simpa [svCells, Value.cells] using hr, by simpa [Value.cells] using repL_oneCell h hr⟩
  all_goals
    simp only [svCells, List.all_cons, List.all_nil, Bool.and_true] at h
    have h1 := rep_oneCell h r
    have hc : v.cells = #[v] := by cases v <;> simp [Value.oneCell'] at h1 <;> rfl
    rw [hc]
    exact ⟨⟨v, [], rfl, r, rfl⟩, by simpa using h1⟩

/-- The memory of an object. -/
def oRep (Γ : Ctx) (w : World) (h : Nat) : AO → Prop
  | ⟨ro, .cells cs⟩ => ∃ b o, Γ.φ h = some (b, o) ∧ ∃ vs : List Value, SV.repL Γ cs vs ∧ (∀ v ∈ vs, v.oneCell' = true) ∧
      (∀ i v, vs[i]? = some v → w.cell? ⟨b, o + i, none⟩ = some v) ∧ (ro = false → ∃ T, o = 0 ∧ w.heap[b]? = some (.cells vs.toArray T (0, 0)))
  | ⟨ro, .row e l⟩ => (Γ.φ h = none ∧ l = []) ∨ ∃ b o, Γ.φ h = some (b, o) ∧ (∀ i v, (encAll e l)[i]? = some v → w.cell? ⟨b, o + i, none⟩ = some v) ∧
      (ro = false → ∃ cur T, w.heap[b]? = some (.cells cur T (0, 0)) ∧ o + l.length * e.sz ≤ cur.size)
  | ⟨ro, .arr n l⟩ => l.length = n ∧ ∃ b o, Γ.φ h = some (b, o) ∧ (∀ i x, l[i]? = some x → w.cell? ⟨b, o + i, none⟩ = some (.int .i64 x)) ∧
      (ro = false → ∃ T, o = 0 ∧ w.heap[b]? = some (.cells (l.map (Value.int .i64)).toArray T (0, 0)))

structure Heap (w0 : World) (W0 : Nat → Prop) (Γ : Ctx) (w : World) : Prop where
  os : w.os = w0.os
  tape : w.tape = w0.tape ∧ w0.drawn ≤ w.drawn
  output : w.output = w0.output
  size : w0.heap.size ≤ w.heap.size
  keep : ∀ b, b < w0.heap.size → ¬ W0 b → w.heap[b]? = w0.heap[b]?
  kind : ∀ b cur T, b < w0.heap.size → w0.heap[b]? = some (.cells cur T (0, 0)) → ∃ cur', w.heap[b]? = some (.cells cur' T (0, 0)) ∧ cur'.size = cur.size
  bs : ∀ b, Γ.bs b = bsOf w b
  obj : ∀ h a, Γ.objs h = some a → oRep Γ w h a
  sn : ∀ h a, Γ.objs h = some a → Γ.seen h = true
  lt : ∀ h a b o, Γ.objs h = some a → Γ.φ h = some (b, o) → b < w.heap.size
  sep : ∀ h h' a a' b o o', Γ.objs h = some a → Γ.objs h' = some a' → Γ.φ h = some (b, o) → Γ.φ h' = some (b, o') → h ≠ h' → a.ro = true ∧ a'.ro = true
  own : ∀ h a b o, Γ.objs h = some a → a.ro = false → Γ.φ h = some (b, o) → w0.heap.size ≤ b ∨ W0 b

def ctx (st : St) (φ : Nat → Option (Nat × Nat)) (w : World) : Ctx := ⟨st.objs, φ, st.seen, bsOf w⟩

/-- An abstract state stands for a frame and a world. -/
structure Good (w0 : World) (W0 : Nat → Prop) (N : Nat) (pv : Nat → Option Value) (st : St) (φ : Nat → Option (Nat × Nat)) (a : Act) (w : World) : Prop where
  defers : a.defers = []
  size : a.tmps.size = N
  par : ∀ i V, pv i = some V → a.tmps.getD i undef = V
  slot : ∀ i, (st.slots i).rep (ctx st φ w) (a.tmps.getD i undef)
  heap : Heap w0 W0 (ctx st φ w) w

/-! ### 3. Moves of the heap -/
theorem upd_same {α : Type} (f : Nat → α) (i : Nat) (x : α) : upd f i x i = x := by simp [upd]
theorem upd_ne {α : Type} (f : Nat → α) {i j : Nat} (x : α) (h : j ≠ i) : upd f i x j = f j := by
  unfold upd
  have : Nat.beq j i = false := by
    cases hb : Nat.beq j i with
    | false => rfl
    | true => exact absurd (Nat.eq_of_beq_eq_true hb) h
  rw [this]
theorem upd_eq {α : Type} (f : Nat → α) (i j : Nat) (x : α) : upd f i x j = if j = i then x else f j := by
  by_cases h : j = i
  · subst h; simp [upd_same]
  · simp [upd_ne f x h, h]

/-- A draw alone. -/
theorem Heap.drew {w0 : World} {W0 : Nat → Prop} {Γ : Ctx} {w : World} (H : Heap w0 W0 Γ w) : Heap w0 W0 Γ { w with drawn := w.drawn + 1 } :=
  ⟨H.os, ⟨H.tape.1, Nat.le_succ_of_le H.tape.2⟩, H.output, H.size, H.keep, H.kind, H.bs, H.obj, H.sn, H.lt, H.sep, H.own⟩

/-- What an object's memory is told by: the map of its block, and of its shape. -/
theorem oRep_le {Γ Γ' : Ctx} {w w' : World} {h : Nat} {a : AO} (hle : Γ.le Γ') (hφ : Γ'.φ h = Γ.φ h)
    (hb : ∀ b o, Γ.φ h = some (b, o) → w'.heap[b]? = w.heap[b]?) (r : oRep Γ w h a) : oRep Γ' w' h a := by
  obtain ⟨ro, o⟩ := a
  cases o with
  | cells cs =>
    obtain ⟨b, o, hp, vs, hr, h1, hc, ho⟩ := r
    have hbb := hb b o hp
    refine ⟨b, o, hφ ▸ hp, vs, SV.repL_le hle _ _ hr, h1, fun i v hv => ?_, fun h => ?_⟩
    · rw [World.cell?_of_block (w := w) (a := ⟨b, o + i, none⟩) hbb]; exact hc i v hv
    · obtain ⟨T, h0, hw⟩ := ho h
      exact ⟨T, h0, hbb ▸ hw⟩
  | row e l =>
    rcases r with ⟨hp, hl⟩ | ⟨b, o, hp, hc, ho⟩
    · exact .inl ⟨hφ ▸ hp, hl⟩
    · have hbb := hb b o hp
      refine .inr ⟨b, o, hφ ▸ hp, fun i v hv => ?_, fun h => ?_⟩
      · rw [World.cell?_of_block (w := w) (a := ⟨b, o + i, none⟩) hbb]; exact hc i v hv
      · obtain ⟨cur, T, hw, hs⟩ := ho h
        exact ⟨cur, T, hbb ▸ hw, hs⟩
  | arr n l =>
    obtain ⟨hn, b, o, hp, hc, ho⟩ := r
    have hbb := hb b o hp
    refine ⟨hn, b, o, hφ ▸ hp, fun i v hv => ?_, fun h => ?_⟩
    · rw [World.cell?_of_block (w := w) (a := ⟨b, o + i, none⟩) hbb]; exact hc i v hv
    · obtain ⟨T, h0, hw⟩ := ho h
      exact ⟨T, h0, hbb ▸ hw⟩

/-- Two objects of one shape. -/
def AO.like : AO → AO → Prop
  | ⟨ro, .row e l⟩, ⟨ro', .row e' l'⟩ => ro = ro' ∧ e = e' ∧ l.length = l'.length
  | ⟨ro, .cells _⟩, ⟨ro', .cells _⟩ => ro = ro'
  | ⟨ro, .arr n _⟩, ⟨ro', .arr n' _⟩ => ro = ro' ∧ n = n'
  | _, _ => False
theorem AO.like.refl (a : AO) : a.like a := by
  obtain ⟨ro, o⟩ := a
  cases o <;> simp [AO.like]

theorem le_of {Γ Γ' : Ctx} (hs : ∀ h, Γ.seen h = true → Γ'.seen h = true)
    (ho : ∀ h, Γ.seen h = true → Γ'.objs h = none ∨ (∃ a a', Γ.objs h = some a ∧ Γ'.objs h = some a' ∧ a.like a' ∧ Γ'.φ h = Γ.φ h ∧ ∀ b o, Γ.φ h = some (b, o) → Γ'.bs b = Γ.bs b)) : Γ.le Γ' := by
  refine ⟨hs, ?_, ?_, ?_⟩
  · intro h w v hh hv
    rcases ho h hh with hn | ⟨⟨ro, o⟩, ⟨ro', o'⟩, h1, h2, hl, hp, hb⟩
    · simp [Ctx.slOk, hn]
    · unfold Ctx.slOk at *
      rw [h1] at hv
      rw [h2]
      cases o <;> cases o' <;> simp only [AO.like] at hl <;> simp only at hv ⊢
      obtain ⟨rfl, rfl, hl⟩ := hl
      rw [← hl]
      obtain ⟨hok, A, cap, hv1, hv2, hv3, hv4⟩ := hv
      refine ⟨hok, A, cap, hv1, hv2, hv3, ?_⟩
      rcases hv4 with h0 | ⟨b, o, hpp, ha, hr⟩
      · exact .inl h0
      · exact .inr ⟨b, o, hp ▸ hpp, ha, fun h => by rw [hb b o hpp]; exact hr h⟩
  · intro h i v hh hv
    rcases ho h hh with hn | ⟨⟨ro, o⟩, ⟨ro', o'⟩, h1, h2, hl, hp, hb⟩
    · simp [Ctx.ptrOk, hn]
    · unfold Ctx.ptrOk at *
      rw [h1] at hv
      rw [h2]
      cases o <;> cases o' <;> simp only [AO.like] at hl <;> simp only at hv ⊢
      rw [hp]; exact hv
  · intro h i j v hh hv
    rcases ho h hh with hn | ⟨⟨ro, o⟩, ⟨ro', o'⟩, h1, h2, hl, hp, hb⟩
    · simp [Ctx.pelOk, hn]
    · unfold Ctx.pelOk at *
      rw [h1] at hv
      rw [h2]
      cases o <;> cases o' <;> simp only [AO.like] at hl <;> simp only at hv ⊢
      · obtain ⟨rfl, rfl, hl⟩ := hl
        rw [hp, ← hl]; exact hv
      · obtain ⟨rfl, rfl⟩ := hl
        rw [hp]; exact hv

end Go.Fx

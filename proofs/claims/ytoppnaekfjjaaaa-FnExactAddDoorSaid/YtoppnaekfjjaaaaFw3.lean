/- The reflective executor, part 3: types, and one step of the heap. -/
import Derived.Test.YtoppnaekfjjaaaaFw2
import Derived.Laws.Cells
set_option linter.unusedVariables false
set_option autoImplicit false
namespace Go.Fx
open Go

/-! ### 1. The table of types is the program's -/
def kindOk : TK → TypeDesc → Bool
  | .int k, .int k' => k == k'
  | .bool, .bool => true
  | .str, .string => true
  | .func, .func _ _ _ => true
  | .ptr, .pointer _ => true
  | .slice e, .slice e' => Nat.beq e e'
  | .arr n e, .array n' e' => Nat.beq n n' && Nat.beq e e'
  | .struct fs, .struct fs' => (fs'.toList.map fun f => (f.type, f.offset)) == fs
  | _, _ => false

/-- The value of an abstract constant. -/
def conc : SV → Option Value
  | .bool b => some (.bool b)
  | .int k n => some (.int k n)
  | .str s => some (.string s)
  | .nil => some (.slice none 0 0)
  | .nilfn => some .nilFunc
  | _ => none
def sameV : Value → Value → Bool
  | .bool a, .bool b => a == b
  | .int j a, .int k b => j == k && a == b
  | .string a, .string b => a.data.toList == b.data.toList
  | .slice none 0 0, .slice none 0 0 => true
  | .nilFunc, .nilFunc => true
  | _, _ => false
def zeroOk : List SV → List Value → Bool
  | [], [] => true
  | c :: cs, v :: vs => (match conc c with | some u => sameV u v | none => false) && zeroOk cs vs
  | _, _ => false

def checkTI (P : Program) (t : Nat) (ti : TI) : Bool :=
  match P.underlying t, P.info? t with
  | some d, some i =>
    kindOk ti.kind d && Nat.beq i.size ti.size && Nat.ble i.bytes 8192 &&
    (match i.zero with
     | some z => match ti.big with
       | false => zeroOk ti.zero z.cells.toList
       | true => zeroOk (List.replicate ti.size (.int .i64 0)) z.cells.toList && ti.isAgg
     | none => false) &&
    (match ti.ek with
     | some e => Nat.beq ti.size e.sz && (ti.isAgg == Nat.ble 2 e.sz) && Nat.ble i.bytes 32 &&
        (match i.zero with | some z => zeroOk ((e.enc e.dflt).map cv1) z.cells.toList | none => false)
     | none => true)
  | _, _ => false

def checkTys (P : Program) : List (Nat × TI) → Bool
  | [] => true
  | (t, ti) :: r => checkTI P t ti && checkTys P r

structure TyAt (P : Program) (t : Nat) (ti : TI) : Prop where
  ok : ∃ d i z, P.underlying t = some d ∧ P.info? t = some i ∧ kindOk ti.kind d = true ∧ i.size = ti.size ∧ i.bytes ≤ 8192 ∧ i.zero = some z ∧
    (ti.big = false → zeroOk ti.zero z.cells.toList = true) ∧
    (ti.big = true → zeroOk (List.replicate ti.size (.int .i64 0)) z.cells.toList = true ∧ ti.isAgg = true) ∧
    (∀ e, ti.ek = some e → ti.size = e.sz ∧ ti.isAgg = Nat.ble 2 e.sz ∧ i.bytes ≤ 32 ∧ zeroOk ((e.enc e.dflt).map cv1) z.cells.toList = true)

/-- What the executor may trust: an entry that is not 'other' is the program's. -/
def TyOk (P : Program) (ty : Ty) : Prop := ∀ t, ((ty t).kind = .other ∧ (ty t).ek = none) ∨ TyAt P t (ty t)

theorem checkTI_at {P : Program} {t : Nat} {ti : TI} (h : checkTI P t ti = true) : TyAt P t ti := by
  unfold checkTI at h
  cases hd : P.underlying t with
  | none => simp [hd] at h
  | some d =>
    cases hi : P.info? t with
    | none => simp [hd, hi] at h
    | some i =>
      simp only [hd, hi, Bool.and_eq_true] at h
      obtain ⟨⟨⟨⟨h1, h2⟩, h3⟩, h4⟩, h5⟩ := h
      cases hz : i.zero with
      | none => simp [hz] at h4
      | some z =>
        simp only [hz] at h4 h5
        refine ⟨d, i, z, hd, hi, h1, Nat.eq_of_beq_eq_true h2, Nat.le_of_ble_eq_true h3, hz, ?_, ?_, ?_⟩
        · intro hb; simpa [hb] using h4
        · intro hb; simpa [hb] using h4
        · intro e he
          simp only [he, Bool.and_eq_true] at h5
          obtain ⟨⟨⟨ha, hb⟩, hc⟩, hd'⟩ := h5
          exact ⟨Nat.eq_of_beq_eq_true ha, by simpa using hb, Nat.le_of_ble_eq_true hc, hd'⟩

theorem tyOf_ok {P : Program} : ∀ {l : List (Nat × TI)}, checkTys P l = true → TyOk P (tyOf l)
  | [], _ => fun t => .inl ⟨rfl, rfl⟩
  | (u, ti) :: r, h => by
    simp only [checkTys, Bool.and_eq_true] at h
    intro t
    simp only [tyOf]
    cases hb : Nat.beq t u with
    | true =>
      have := Nat.eq_of_beq_eq_true hb
      subst this
      exact .inr (checkTI_at h.1)
    | false => exact tyOf_ok h.2 t

theorem sameV_eq {a b : Value} (h : sameV a b = true) : b = a := by
  unfold sameV at h
  split at h <;> simp at h
  · exact congrArg Value.bool h.symm
  · obtain ⟨h1, h2⟩ := h; rw [h1, h2]
  · rename_i x y
    have : x.data = y.data := h
    cases x; cases y; simp at this; rw [this]
  · rfl
  · rfl
theorem zeroOk_rep {Γ : Ctx} : ∀ {cs : List SV} {vs : List Value}, zeroOk cs vs = true → SV.repL Γ cs vs ∧ (∀ v ∈ vs, v.oneCell' = true) ∧ cs.length = vs.length
  | [], [], _ => ⟨rfl, by simp, rfl⟩
  | [], v :: vs, h => by simp [zeroOk] at h
  | c :: cs, [], h => by simp [zeroOk] at h
  | c :: cs, v :: vs, h => by
    simp only [zeroOk, Bool.and_eq_true] at h
    obtain ⟨h1, h2⟩ := h
    obtain ⟨r, o, l⟩ := zeroOk_rep (Γ := Γ) h2
    have hc : c.rep Γ v ∧ v.oneCell' = true := by
      cases c <;> simp [conc] at h1
      all_goals (have := sameV_eq h1; subst this; simp [SV.rep, Value.oneCell'])
    exact ⟨⟨v, vs, rfl, hc.1, r⟩, by simpa using ⟨hc.2, o⟩, by simp [l]⟩

/-! ### 2. One object more, or another one, and some fewer -/
theorem Heap.step {w0 : World} {W0 : Nat → Prop} {Γ Γ' : Ctx} {w w' : World} (H : Heap w0 W0 Γ w) (m : Nat) (a : AO) (B : Option Nat)
    (hle : Γ.le Γ') (hos : w'.os = w.os) (htape : w'.tape = w.tape) (hout : w'.output = w.output) (hsize : w.heap.size ≤ w'.heap.size)
    (hblk : ∀ b, b < w.heap.size → some b ≠ B → w'.heap[b]? = w.heap[b]?)
    (hB : ∀ b, B = some b → w0.heap.size ≤ b ∨ W0 b)
    (hBk : ∀ b, B = some b → ∃ cur cur' T, w.heap[b]? = some (.cells cur T (0, 0)) ∧ w'.heap[b]? = some (.cells cur' T (0, 0)) ∧ cur'.size = cur.size)
    (hbs : ∀ b, Γ'.bs b = bsOf w' b)
    (hobj : ∀ h a', h ≠ m → Γ'.objs h = some a' → Γ.objs h = some a' ∧ Γ'.φ h = Γ.φ h ∧ ∀ b o, Γ.φ h = some (b, o) → some b ≠ B)
    (hm : Γ'.objs m = some a) (hsm : Γ'.seen m = true) (hrep : oRep Γ' w' m a)
    (hp : ∀ b o, Γ'.φ m = some (b, o) → b < w'.heap.size ∧ (∀ h a' o', h ≠ m → Γ'.objs h = some a' → Γ.φ h = some (b, o') → a'.ro = true ∧ a.ro = true) ∧ (a.ro = false → w0.heap.size ≤ b ∨ W0 b)) (hdr : w.drawn ≤ w'.drawn := by exact Nat.le_refl _) :
    Heap w0 W0 Γ' w' := by
  refine ⟨hos.trans H.os, ⟨htape.trans H.tape.1, Nat.le_trans H.tape.2 hdr⟩, hout.trans H.output, Nat.le_trans H.size hsize, ?_, ?_, hbs, ?_, ?_, ?_, ?_, ?_⟩
  · intro b hb hW
    rw [hblk b (Nat.lt_of_lt_of_le hb H.size) ?_]
    · exact H.keep b hb hW
    · intro e
      rcases hB b e.symm with h | h
      · omega
      · exact hW h
  · intro b cur T hb hw
    obtain ⟨c1, h1, h2⟩ := H.kind b cur T hb hw
    by_cases e : some b = B
    · obtain ⟨c2, c3, T', k1, k2, k3⟩ := hBk b e.symm
      rw [h1] at k1
      cases k1
      exact ⟨c3, k2, k3.trans h2⟩
    · exact ⟨c1, by rw [hblk b (Nat.lt_of_lt_of_le hb H.size) e]; exact h1, h2⟩
  · intro h a' ha
    by_cases e : h = m
    · subst e; rw [hm] at ha; cases ha; exact hrep
    · obtain ⟨h1, h2, h3⟩ := hobj h a' e ha
      exact oRep_le hle h2 (fun b o hbo => hblk b (H.lt h a' b o h1 hbo) (h3 b o hbo)) (H.obj h a' h1)
  · intro h a' ha
    by_cases e : h = m
    · subst e; exact hsm
    · exact hle.seen h (H.sn h a' (hobj h a' e ha).1)
  · intro h a' b o ha hb
    by_cases e : h = m
    · subst e; exact (hp b o hb).1
    · obtain ⟨h1, h2, _⟩ := hobj h a' e ha
      rw [h2] at hb
      exact Nat.lt_of_lt_of_le (H.lt h a' b o h1 hb) hsize
  · intro h h' x x' b o o' hx hx' hb hb' hne
    by_cases e : h = m
    · subst e
      have e' : h' ≠ h := fun q => hne q.symm
      obtain ⟨h1, h2, _⟩ := hobj h' x' e' hx'
      rw [h2] at hb'
      rw [hm] at hx
      cases hx
      have := (hp b o hb).2.1 h' x' o' e' hx' hb'
      exact ⟨this.2, this.1⟩
    · obtain ⟨h1, h2, _⟩ := hobj h x e hx
      rw [h2] at hb
      by_cases e' : h' = m
      · subst e'
        rw [hm] at hx'
        cases hx'
        exact (hp b o' hb').2.1 h x o e hx hb
      · obtain ⟨h1', h2', _⟩ := hobj h' x' e' hx'
        rw [h2'] at hb'
        exact H.sep h h' x x' b o o' h1 h1' hb hb' hne
  · intro h x b o hx hr hb
    by_cases e : h = m
    · subst e
      rw [hm] at hx
      cases hx
      exact (hp b o hb).2.2 hr
    · obtain ⟨h1, h2, _⟩ := hobj h x e hx
      rw [h2] at hb
      exact H.own h x b o h1 hr hb

theorem bsOf_alloc (w : World) (o : Obj) (b : Nat) (hb : b < w.heap.size) : bsOf (w.alloc o) b = bsOf w b := by
  unfold bsOf
  rw [heap_alloc_old w o b hb]

theorem alloc_get (w : World) (o : Obj) : (w.alloc o).heap[w.heap.size]? = some o := heap_alloc_new w o

/-- A new block with cells, known by the name m, which nobody knew. -/
theorem Heap.fresh {w0 : World} {W0 : Nat → Prop} {Γ : Ctx} {w : World} (H : Heap w0 W0 Γ w) (m : Nat) (hm : Γ.seen m = false) (a : AO) (c : Array Value) (T : Nat)
    (hrep : ∀ Γ' : Ctx, Γ.le Γ' → Γ'.φ m = some (w.heap.size, 0) → Γ'.objs m = some a → oRep Γ' (w.alloc (.cells c T)) m a) :
    Heap w0 W0 ⟨upd Γ.objs m (some a), upd Γ.φ m (some (w.heap.size, 0)), upd Γ.seen m true, bsOf (w.alloc (.cells c T))⟩ (w.alloc (.cells c T)) ∧
    Γ.le ⟨upd Γ.objs m (some a), upd Γ.φ m (some (w.heap.size, 0)), upd Γ.seen m true, bsOf (w.alloc (.cells c T))⟩ := by
  have hle : Γ.le ⟨upd Γ.objs m (some a), upd Γ.φ m (some (w.heap.size, 0)), upd Γ.seen m true, bsOf (w.alloc (.cells c T))⟩ := by
    refine le_of (fun h hh => ?_) (fun h hh => ?_)
    · have hne : h ≠ m := fun e => by rw [e, hm] at hh; cases hh
      show upd Γ.seen m true h = true
      rw [upd_ne _ _ hne]; exact hh
    · have hne : h ≠ m := fun e => by rw [e, hm] at hh; cases hh
      show upd Γ.objs m (some a) h = none ∨ _
      rw [upd_ne _ _ hne]
      cases ho : Γ.objs h with
      | none => exact .inl rfl
      | some x =>
        refine .inr ⟨x, x, rfl, ?_, AO.like.refl x, ?_, ?_⟩
        · show upd Γ.objs m (some a) h = some x
          rw [upd_ne _ _ hne]; exact ho
        · show upd Γ.φ m _ h = Γ.φ h
          rw [upd_ne _ _ hne]
        · intro b o hb
          rw [H.bs b]
          exact bsOf_alloc w _ b (H.lt h x b o ho hb)
  refine ⟨H.step m a none hle rfl rfl rfl (by simp) (fun b hb _ => heap_alloc_old w _ b hb) (fun b hb => by cases hb) (fun b hb => by cases hb) (fun _ => rfl) ?_ (upd_same _ _ _) (upd_same _ _ _) (hrep _ hle (upd_same _ _ _) (upd_same _ _ _)) ?_, hle⟩
  · intro h a' hne ha
    have ha' : upd Γ.objs m (some a) h = some a' := ha
    rw [upd_ne _ _ hne] at ha'
    refine ⟨ha', ?_, fun b o _ e => by cases e⟩
    show upd Γ.φ m _ h = Γ.φ h
    rw [upd_ne _ _ hne]
  · intro b o hb
    have hb' : upd Γ.φ m (some (w.heap.size, 0)) m = some (b, o) := hb
    rw [upd_same] at hb'
    cases hb'
    refine ⟨by simp, ?_, fun _ => .inl H.size⟩
    intro h a' o' hne ha hbb
    have ha' : upd Γ.objs m (some a) h = some a' := ha
    rw [upd_ne _ _ hne] at ha'
    have := H.lt h a' _ o' ha' hbb
    omega

end Go.Fx

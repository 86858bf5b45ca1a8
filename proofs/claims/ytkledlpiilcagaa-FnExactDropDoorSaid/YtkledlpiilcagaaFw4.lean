/- The reflective executor, part 4: operations that leave the memory alone. -/
import Derived.Test.YtkledlpiilcagaaFw3
import Derived.ChangeKeysEq
set_option linter.unusedVariables false
set_option linter.unusedSimpArgs false
set_option autoImplicit false
namespace Go.Fx
open Go

abbrev G (objs : Nat → Option AO) (φ : Nat → Option (Nat × Nat)) (seen : Nat → Bool) (w : World) : Ctx := ⟨objs, φ, seen, bsOf w⟩
abbrev Af (objs : Nat → Option AO) (seen : Nat → Bool) (e : Eff) (φ' : Nat → Option (Nat × Nat)) (w' : World) : Ctx := G (wrObjs e.wr objs) φ' (wrSeen e.wr seen) w'

/-- The operation runs, and does what the effect says. -/
def Does (P : Program) (w0 : World) (W0 : Nat → Prop) (objs : Nat → Option AO) (φ : Nat → Option (Nat × Nat)) (seen : Nat → Bool) (w : World) (e : Eff) (s : Sem Next) : Prop :=
  ∃ nx v w' φ', s.run P w = .ok nx w' ∧ (nx = .value v ∨ (nx = .skip ∧ v = undef)) ∧
    e.val.rep (Af objs seen e φ' w') v ∧ Heap w0 W0 (Af objs seen e φ' w') w' ∧ (G objs φ seen w).le (Af objs seen e φ' w')

section
variable {P : Program} {w0 : World} {W0 : Nat → Prop} {objs : Nat → Option AO} {φ : Nat → Option (Nat × Nat)} {seen : Nat → Bool} {w : World}

theorem does_pure {e : Eff} {s : Sem Next} {v : Value} (H : Heap w0 W0 (G objs φ seen w) w) (hs : s.run P w = .ok (.value v) w) (hwr : e.wr = []) (hv : e.val.rep (G objs φ seen w) v) :
    Does P w0 W0 objs φ seen w e s := by
  refine ⟨_, v, w, φ, hs, .inl rfl, ?_, ?_, ?_⟩
  all_goals simp only [Af, hwr, wrObjs, wrSeen]
  · exact hv
  · exact H
  · exact Ctx.le.refl _

theorem cv1_rep (Γ : Ctx) (v : Value) : (cv1 v).rep Γ v := by
  unfold cv1
  split <;> simp [SV.rep]
theorem cv_rep (Γ : Ctx) (v : Value) : (cv v).rep Γ v := by
  unfold cv
  split
  · rename_i cs
    refine ⟨cs.toList, by simp, ?_⟩
    refine repL_of_get (by simp) ?_
    intro i c v hc hv
    simp only [List.getElem?_map, hv, Option.map_some, Option.some.injEq] at hc
    subst hc
    exact cv1_rep Γ v
  · exact cv1_rep Γ v
theorem ev_rep {Γ : Ctx} {slots : Nat → SV} {a : Act} (h : ∀ i, (slots i).rep Γ (a.tmps.getD i undef)) (x : Operand) : (ev slots x).rep Γ (a.eval x) := by
  cases x with
  | tmp t => exact h t
  | const v => exact cv_rep Γ v
  | func f => exact ⟨[], rfl, rfl⟩
  | global g => trivial

theorem eqGuard_ok {op : BinOp} {t : TypeId} {x y : Operand} {a b : Value} (ha : (∃ k n, a = .int k n) ∨ (∃ s, a = .string s) ∨ (∃ s, a = .bool s)) :
    (eqGuard op t x y a b).run P w = .ok () w := by
  rcases ha with ⟨k, n, rfl⟩ | ⟨s, rfl⟩ | ⟨s, rfl⟩ <;> cases op <;> simp [eqGuard]

theorem ty_kind {ty : Ty} (hT : TyOk P ty) {t : Nat} {k : TK} (hk : (ty t).kind = k) (hne : k ≠ .other) : TyAt P t (ty t) := by
  rcases hT t with h | h
  · exact absurd (hk.symm.trans h.1) hne
  · exact h
theorem ty_under {ty : Ty} (hT : TyOk P ty) {t : Nat} {k : TK} (hk : (ty t).kind = k) (hne : k ≠ .other) : ∃ d, P.underlying t = some d ∧ kindOk k d = true := by
  obtain ⟨d, i, z, h1, _, h3, _⟩ := (ty_kind hT hk hne).ok
  exact ⟨d, h1, hk ▸ h3⟩
theorem ty_bool {ty : Ty} (hT : TyOk P ty) {t : Nat} (hk : (ty t).kind = .bool) : P.underlying t = some .bool := by
  obtain ⟨d, h1, h2⟩ := ty_under hT hk (by simp)
  cases d <;> simp [kindOk] at h2
  exact h1
theorem ty_str {ty : Ty} (hT : TyOk P ty) {t : Nat} (hk : (ty t).kind = .str) : P.underlying t = some .string := by
  obtain ⟨d, h1, h2⟩ := ty_under hT hk (by simp)
  cases d <;> simp [kindOk] at h2
  exact h1
theorem ty_int {ty : Ty} (hT : TyOk P ty) {t : Nat} {k : IntKind} (hk : (ty t).kind = .int k) : P.underlying t = some (.int k) := by
  obtain ⟨d, h1, h2⟩ := ty_under hT hk (by simp)
  cases d <;> simp [kindOk] at h2
  rw [h1, h2]
theorem ty_slice {ty : Ty} (hT : TyOk P ty) {t e : Nat} (hk : (ty t).kind = .slice e) : P.underlying t = some (.slice e) := by
  obtain ⟨d, h1, h2⟩ := ty_under hT hk (by simp)
  cases d <;> simp [kindOk] at h2
  rw [h1, h2]
theorem ty_arr {ty : Ty} (hT : TyOk P ty) {t n e : Nat} (hk : (ty t).kind = .arr n e) : P.underlying t = some (.array n e) := by
  obtain ⟨d, h1, h2⟩ := ty_under hT hk (by simp)
  cases d <;> simp [kindOk] at h2
  rw [h1, h2.1, h2.2]
theorem ty_struct {ty : Ty} (hT : TyOk P ty) {t : Nat} {fs : List (Nat × Nat)} (hk : (ty t).kind = .struct fs) : ∃ f : Array Field, P.underlying t = some (.struct f) ∧ f.toList.map (fun f => (f.type, f.offset)) = fs := by
  obtain ⟨d, h1, h2⟩ := ty_under hT hk (by simp)
  cases d <;> simp [kindOk] at h2
  exact ⟨_, h1, by simpa using h2⟩

theorem binK_ok {ty : Ty} (hT : TyOk P ty) {Γ : Ctx} {op : BinOp} {t : TypeId} {x y v : SV} {xo yo : Operand} {a b : Value} (h : binK (ty t).kind op x y some = some v) (hx : x.rep Γ a) (hy : y.rep Γ b) :
    ∃ u, (do eqGuard op t xo yo a b; binOp op t a b : Sem Value).run P w = .ok u w ∧ v.rep Γ u := by
  unfold binK at h
  split at h
  · rename_i k m k' n
    simp only [SV.rep] at hx hy
    subst hx hy
    rw [Sem.run_bind, eqGuard_ok (.inl ⟨_, _, rfl⟩)]
    simp only [Result.andThen_ok]
    cases op <;> simp only at h
    all_goals first
      | (split at h
         · simp at h
         · simp only [Option.some.injEq] at h
           subst h
           refine ⟨_, ?_, rfl⟩
           rename_i hb
           simp [binOp, Op.shift, hb, shL, shR]
           done)
      | (split at h
         · rename_i hk
           subst hk
           first
             | (simp only [Option.some.injEq] at h
                subst h
                refine ⟨_, ?_, rfl⟩
                simp [binOp, Op.intArith, Op.intBits, Op.intCmp, bitOr, bitAnd, bitXor, bitClr]
                done)
             | (simp only [Option.some.injEq] at h
                subst h
                refine ⟨_, ?_, rfl⟩
                simp only [binOp, Op.intCmp, ne_eq, not_true_eq_false, if_false, Sem.run_pure]
                rfl)
             | (split at h
                · simp at h
                · rename_i hb
                  simp only [Option.some.injEq] at h
                  subst h
                  refine ⟨_, ?_, rfl⟩
                  simp [binOp, Op.intDiv, hb]
                  done)
         · simp at h)
  · rename_i p q
    simp only [SV.rep] at hx hy
    subst hx hy
    split at h
    all_goals first | (simp at h; done) | skip
    all_goals
      rename_i hk
      have hb := ty_bool hT hk
      rw [Sem.run_bind, eqGuard_ok (.inr (.inr ⟨_, rfl⟩))]
      simp only [Result.andThen_ok]
      simp only [Option.some.injEq] at h
      subst h
      refine ⟨_, ?_, rfl⟩
    · show ((do pure (.bool (← Op.equal t (.bool p) (.bool q))) : Sem Value)).run P w = _
      rw [Sem.run_bind, Op.equal, Op.maxDepth, run_equalIn_bool' w 9999 t p q hb]
      rfl
    · show ((do pure (.bool (!(← Op.equal t (.bool p) (.bool q)))) : Sem Value)).run P w = _
      rw [Sem.run_bind, Op.equal, Op.maxDepth, run_equalIn_bool' w 9999 t p q hb]
      rfl
  · rename_i p q
    simp only [SV.rep] at hx hy
    subst hx hy
    rw [Sem.run_bind, eqGuard_ok (.inr (.inl ⟨_, rfl⟩))]
    simp only [Result.andThen_ok]
    cases op <;> simp only [reduceCtorEq] at h
    all_goals first
      | (simp only [Option.some.injEq] at h
         subst h
         refine ⟨_, ?_, rfl⟩
         simp [binOp, Op.stringOp]
         done)
      | (split at h
         · rename_i hs
           simp only [Option.some.injEq] at h
           subst h
           refine ⟨_, ?_, rfl⟩
           simp only [binOp, Op.stringOp]
           rw [if_neg (by simp [IntKind.max, IntKind.signed, IntKind.bits]; omega)]
           rfl
         · simp at h)
  · simp at h

end
end Go.Fx

/- The reflective executor, part 15: continuations, and what an operation looks at. -/
import Derived.Test.YtkledlpiilcagaaFw14
set_option linter.unusedVariables false
set_option linter.unusedSimpArgs false
set_option autoImplicit false
namespace Go.Fx
open Go
section
variable {β : Type} {ty : Ty}
theorem loadK_nat (t : Nat) (x : SV) (look : Nat → Option AO) (K : Eff → Option β) : loadK ty t x look K = (loadK ty t x look some).bind K := by
  unfold loadK
  repeat' split
  all_goals first | rfl | simp_all
theorem storeK_nat (t : Nat) (x v : SV) (look : Nat → Option AO) (K : Eff → Option β) : storeK ty t x v look K = (storeK ty t x v look some).bind K := by
  unfold storeK
  repeat' split
  all_goals first | rfl | simp_all
theorem sliceO_nat (t : Nat) (x : SV) (lo hi mx : Option SV) (look : Nat → Option AO) (K : Eff → Option β) : sliceO ty t x lo hi mx look K = (sliceO ty t x lo hi mx look some).bind K := by
  unfold sliceO
  repeat' split
  all_goals first | rfl | simp_all
theorem sliceM_nat (t : Nat) (x : SV) (lo hi mx : Option SV) (look : Nat → Option AO) (K : Eff → Option β) : sliceM ty t x lo hi mx look K = (sliceM ty t x lo hi mx look some).bind K := by
  unfold sliceM
  repeat' split
  all_goals first | rfl | simp_all
theorem sliceB_nat (t : Nat) (x : SV) (lo hi : Option SV) (look : Nat → Option AO) (K : Eff → Option β) : sliceB ty t x lo hi look K = (sliceB ty t x lo hi look some).bind K := by
  unfold sliceB
  repeat' split
  all_goals first | rfl | simp_all
theorem sliceK_nat (t : Nat) (x : SV) (lo hi mx : Option SV) (look : Nat → Option AO) (K : Eff → Option β) : sliceK ty t x lo hi mx look K = (sliceK ty t x lo hi mx look some).bind K := by
  unfold sliceK
  split
  · exact sliceM_nat ..
  · split
    · exact sliceB_nat ..
    · exact sliceO_nat ..
theorem indexAddrK_nat (t : Nat) (x ix : SV) (look : Nat → Option AO) (K : Eff → Option β) : indexAddrK ty t x ix look K = (indexAddrK ty t x ix look some).bind K := by
  unfold indexAddrK
  repeat' split
  all_goals first | rfl | simp_all
theorem appendO_nat (k : EK) (look : Nat → Option AO) (seen : Nat → Bool) (d : Nat) (s y : SV) (K : Eff → Option β) : appendO k look seen d s y K = (appendO k look seen d s y some).bind K := by
  unfold appendO
  repeat' split
  all_goals first | rfl | simp_all
theorem appendS_nat (k : EK) (look : Nat → Option AO) (h i j : Nat) (K : Eff → Option β) : appendS k look h i j K = (appendS k look h i j some).bind K := by
  unfold appendS
  repeat' split
  all_goals first | rfl | simp_all
theorem appendK_nat (k : EK) (look : Nat → Option AO) (seen : Nat → Bool) (d : Nat) (s y : SV) (K : Eff → Option β) : appendK k look seen d s y K = (appendK k look seen d s y some).bind K := by
  unfold appendK
  split
  · exact appendS_nat ..
  · exact appendO_nat ..
theorem clearK_nat (t : Nat) (x : SV) (look : Nat → Option AO) (K : Eff → Option β) : clearK ty t x look K = (clearK ty t x look some).bind K := by
  unfold clearK
  repeat' split
  all_goals first | rfl | simp_all
theorem builtinK_nat (b : Builtin) (ats : List Nat) (args : List SV) (look : Nat → Option AO) (seen : Nat → Bool) (d : Nat) (K : Eff → Option β) :
    builtinK ty b ats args look seen d K = (builtinK ty b ats args look seen d some).bind K := by
  unfold builtinK minK maxK
  repeat' split
  all_goals first | rfl | exact appendK_nat .. | exact clearK_nat .. | simp_all

def PFn.Natural (F : PFn) : Prop := ∀ (β : Type) (args : List SV) (look : Nat → Option AO) (seen : Nat → Bool) (d : Nat) (K : Eff → Option β), F.run args look seen d K = (F.run args look seen d some).bind K

theorem opK_nat {Φ : Nat → PFn} (hΦ : ∀ g, (Φ g).Natural) (e : Operand → SV) (look : Nat → Option AO) (seen : Nat → Bool) (d : Nat) (op : Op) (K : Eff → Option β) :
    opK ty Φ e look seen d op K = (opK ty Φ e look seen d op some).bind K := by
  cases op
  case load => exact loadK_nat ..
  case store => exact storeK_nat ..
  case slice => exact sliceK_nat ..
  case indexAddr => exact indexAddrK_nat ..
  case binOp o t x y z =>
    simp only [opK]
    split
    · rw [eqAggK_nat, eqAggK_nat (K := fun v => some (⟨v, [], []⟩ : Eff)), Option.bind_assoc]; rfl
    · rw [binK_nat, binK_nat (K := fun v => some (⟨v, [], []⟩ : Eff)), Option.bind_assoc]; rfl
  case unOp o t x =>
    simp only [opK]
    rw [unK_nat, unK_nat (K := fun v => some (⟨v, [], []⟩ : Eff)), Option.bind_assoc]; rfl
  case call c =>
    simp only [opK]
    split
    · exact builtinK_nat ..
    · split
      · exact hΦ _ _ _ _ _ _ _
      · rfl
    · rfl
  all_goals
    simp only [opK]
    (repeat' split)
    all_goals first | rfl | simp_all
end

/-! ### 2. An operation looks at nothing but what it says -/
structure Same (look look' : Nat → Option AO) (seen seen' : Nat → Bool) (ef : Eff) : Prop where
  look : ∀ h, h ∈ ef.touch ++ ef.wr.map (·.1) → look' h = look h
  seen : ∀ h, h ∈ ef.wr.map (·.1) → seen' h = seen h

section
variable {ty : Ty} {look look' : Nat → Option AO} {seen seen' : Nat → Bool} {ef : Eff}
theorem loadK_loc (t : Nat) (x : SV) (h : loadK ty t x look some = some ef) (S : Same look look' seen seen' ef) : loadK ty t x look' some = some ef := by
  have q := S.look
  unfold loadK at h ⊢
  repeat' (split at h)
  all_goals try (simp at h; done)
  all_goals
    simp only [Option.some.injEq] at h
    subst h
    simp only [List.cons_append, List.nil_append, List.append_nil, List.map_nil, List.map_cons, List.mem_cons, List.not_mem_nil, or_false, forall_eq, forall_eq_or_imp] at q
    first
      | (simp only [*, ↓reduceIte]; done)
      | simp_all
theorem storeK_loc (t : Nat) (x v : SV) (h : storeK ty t x v look some = some ef) (S : Same look look' seen seen' ef) : storeK ty t x v look' some = some ef := by
  have q := S.look
  unfold storeK at h ⊢
  repeat' (split at h)
  all_goals try (simp at h; done)
  all_goals
    simp only [Option.some.injEq] at h
    subst h
    simp only [List.cons_append, List.nil_append, List.append_nil, List.map_nil, List.map_cons, List.mem_cons, List.not_mem_nil, or_false, forall_eq, forall_eq_or_imp] at q
    first
      | (simp only [*, ↓reduceIte]; done)
      | simp_all
theorem sliceO_loc (t : Nat) (x : SV) (lo hi mx : Option SV) (h : sliceO ty t x lo hi mx look some = some ef) (S : Same look look' seen seen' ef) : sliceO ty t x lo hi mx look' some = some ef := by
  have q := S.look
  unfold sliceO at h ⊢
  repeat' (split at h)
  all_goals try (simp at h; done)
  all_goals
    simp only [Option.some.injEq] at h
    subst h
    simp only [List.cons_append, List.nil_append, List.append_nil, List.map_nil, List.map_cons, List.mem_cons, List.not_mem_nil, or_false, forall_eq, forall_eq_or_imp] at q
    first
      | (simp only [*, ↓reduceIte]; done)
      | simp_all
theorem sliceM_loc (t : Nat) (x : SV) (lo hi mx : Option SV) (h : sliceM ty t x lo hi mx look some = some ef) (S : Same look look' seen seen' ef) : sliceM ty t x lo hi mx look' some = some ef := by
  have q := S.look
  unfold sliceM at h ⊢
  repeat' (split at h)
  all_goals try (simp at h; done)
  all_goals
    simp only [Option.some.injEq] at h
    subst h
    simp only [List.cons_append, List.nil_append, List.append_nil, List.map_nil, List.map_cons, List.mem_cons, List.not_mem_nil, or_false, forall_eq, forall_eq_or_imp] at q
    first
      | (simp only [*, ↓reduceIte]; done)
      | simp_all
theorem sliceB_loc (t : Nat) (x : SV) (lo hi : Option SV) (h : sliceB ty t x lo hi look some = some ef) (S : Same look look' seen seen' ef) : sliceB ty t x lo hi look' some = some ef := by
  have q := S.look
  unfold sliceB at h ⊢
  repeat' (split at h)
  all_goals try (simp at h; done)
  all_goals
    simp only [Option.some.injEq] at h
    subst h
    simp only [List.cons_append, List.nil_append, List.append_nil, List.map_nil, List.map_cons, List.mem_cons, List.not_mem_nil, or_false, forall_eq, forall_eq_or_imp] at q
    first
      | (simp only [*, ↓reduceIte]; done)
      | simp_all
theorem sliceK_loc (t : Nat) (x : SV) (lo hi mx : Option SV) (h : sliceK ty t x lo hi mx look some = some ef) (S : Same look look' seen seen' ef) : sliceK ty t x lo hi mx look' some = some ef := by
  unfold sliceK at h ⊢
  split at h
  · exact sliceM_loc t x _ _ _ h S
  · split at h
    · exact sliceB_loc t x _ _ h S
    · exact sliceO_loc t x _ _ _ h S
theorem indexAddrK_loc (t : Nat) (x ix : SV) (h : indexAddrK ty t x ix look some = some ef) (S : Same look look' seen seen' ef) : indexAddrK ty t x ix look' some = some ef := by
  have q := S.look
  unfold indexAddrK at h ⊢
  repeat' (split at h)
  all_goals try (simp at h; done)
  all_goals
    simp only [Option.some.injEq] at h
    subst h
    simp only [List.cons_append, List.nil_append, List.append_nil, List.map_nil, List.map_cons, List.mem_cons, List.not_mem_nil, or_false, forall_eq, forall_eq_or_imp] at q
    first
      | (simp only [*, ↓reduceIte]; done)
      | simp_all
theorem appendO_loc (k : EK) (d : Nat) (s y : SV) (h : appendO k look seen d s y some = some ef) (S : Same look look' seen seen' ef) : appendO k look' seen' d s y some = some ef := by
  have q := S.look
  have q2 := S.seen
  unfold appendO at h ⊢
  repeat' (split at h)
  all_goals try (simp at h; done)
  all_goals
    simp only [Option.some.injEq] at h
    subst h
    simp only [List.cons_append, List.nil_append, List.append_nil, List.map_nil, List.map_cons, List.mem_cons, List.not_mem_nil, or_false, forall_eq, forall_eq_or_imp] at q
    first
      | (simp only [*, ↓reduceIte]; done)
      | simp_all
theorem appendS_loc (k : EK) (hh i j : Nat) (h : appendS k look hh i j some = some ef) (S : Same look look' seen seen' ef) : appendS k look' hh i j some = some ef := by
  have q := S.look
  have q2 := S.seen
  unfold appendS at h ⊢
  repeat' (split at h)
  all_goals try (simp at h; done)
  all_goals
    simp only [Option.some.injEq] at h
    subst h
    simp only [List.cons_append, List.nil_append, List.append_nil, List.map_nil, List.map_cons, List.mem_cons, List.not_mem_nil, or_false, forall_eq, forall_eq_or_imp] at q
    first
      | (simp only [*, ↓reduceIte]; done)
      | simp_all
theorem appendK_loc (k : EK) (d : Nat) (s y : SV) (h : appendK k look seen d s y some = some ef) (S : Same look look' seen seen' ef) : appendK k look' seen' d s y some = some ef := by
  unfold appendK at h ⊢
  split at h
  · exact appendS_loc k _ _ _ h S
  · exact appendO_loc k d s y h S
theorem lenOf_loc {x : SV} {n : Nat} (h : lenOf look x = some n) (q : ∀ h, h ∈ hOf x → look' h = look h) : lenOf look' x = some n := by
  unfold lenOf hOf at *
  split at h <;> simp_all
theorem clearK_loc (t : Nat) (x : SV) (h : clearK ty t x look some = some ef) (S : Same look look' seen seen' ef) : clearK ty t x look' some = some ef := by
  have q := S.look
  unfold clearK at h ⊢
  repeat' (split at h)
  all_goals try (simp at h; done)
  all_goals
    simp only [Option.some.injEq] at h
    subst h
    simp only [List.cons_append, List.nil_append, List.append_nil, List.map_nil, List.map_cons, List.mem_cons, List.not_mem_nil, or_false, forall_eq, forall_eq_or_imp] at q
    first
      | (simp only [*, ↓reduceIte]; done)
      | simp_all
theorem builtinK_loc (b : Builtin) (ats : List Nat) (args : List SV) (d : Nat) (h : builtinK ty b ats args look seen d some = some ef) (S : Same look look' seen seen' ef) :
    builtinK ty b ats args look' seen' d some = some ef := by
  unfold builtinK at h ⊢
  split at h
  · split at h
    · exact h
    · split at h
      · rename_i n hn
        simp only [Option.some.injEq] at h
        subst h
        have := lenOf_loc (look' := look') hn fun h hh => S.look h (by simpa using hh)
        simp only [this, *]
      · simp at h
    · simp_all
    · simp at h
  · split at h
    · split at h
      · try simp only [*]
        exact appendK_loc _ _ _ _ h S
      · simp at h
    · simp at h
  · exact h
  · exact h
  · exact clearK_loc _ _ h S
  · simp at h

structure PFn.Local (F : PFn) : Prop where
  loc : ∀ (args : List SV) (look look' : Nat → Option AO) (seen seen' : Nat → Bool) (d : Nat) (ef : Eff), F.run args look seen d some = some ef → Same look look' seen seen' ef → F.run args look' seen' d some = some ef

theorem opK_loc {Φ : Nat → PFn} (hΦ : ∀ g, (Φ g).Local) {e e' : Operand → SV} {d : Nat} {op : Op} (he : ∀ x ∈ op.operands, e' x = e x)
    (h : opK ty Φ e look seen d op some = some ef) (S : Same look look' seen seen' ef) : opK ty Φ e' look' seen' d op some = some ef := by
  have pairs : ∀ ps : Array (Nat × Operand), (∀ x ∈ ps.map (·.2), e' x = e x) → (ps.toList.map fun p => (p.1, e' p.2)) = (ps.toList.map fun p => (p.1, e p.2)) := fun ps hp =>
    List.map_congr_left fun p hm => by
      obtain ⟨i, x⟩ := p
      simp only [hp x (Array.mem_map.2 ⟨(i, x), by simpa using hm, rfl⟩)]
  have q := S.look
  have q2 := S.seen
  cases op <;> simp only [Op.operands] at he <;> simp only [opK] at h ⊢
  case load t a =>
    rw [he a (by simp)]
    exact loadK_loc t _ h S
  case store t a v =>
    rw [he a (by simp), he v (by simp)]
    exact storeK_loc t _ _ h S
  case slice t x lo hi mx =>
    have e1 : e' x = e x := he x (by simp)
    have e2 : lo.map e' = lo.map e := by cases lo <;> simp_all
    have e3 : hi.map e' = hi.map e := by cases hi <;> simp_all
    have e4 : mx.map e' = mx.map e := by cases mx <;> simp_all
    rw [e1, e2, e3, e4]
    exact sliceK_loc t _ _ _ _ h S
  case indexAddr t x i =>
    rw [he x (by simp), he i (by simp)]
    exact indexAddrK_loc t _ _ h S
  case build t ps =>
    rw [pairs ps (by simpa using he)]
    exact h
  case buildSlice t n ps =>
    rw [pairs ps (by simpa using he)]
    repeat' (split at h)
    all_goals try (simp at h; done)
    all_goals
      simp only [Option.some.injEq] at h
      subst h
      simp only [List.cons_append, List.nil_append, List.append_nil, List.map_nil, List.map_cons, List.mem_cons, List.not_mem_nil, or_false, forall_eq, forall_eq_or_imp] at q q2
      first
        | (simp only [*, ↓reduceIte]; done)
        | simp_all
  case call c =>
    have ea : c.args.toList.map e' = c.args.toList.map e := List.map_congr_left fun x hx => he x (by simp [Call.operands]; simp_all)
    rw [ea]
    split at h
    · try simp only [*]
      exact builtinK_loc _ _ _ _ h S
    · rename_i f hf
      have ef : e' f = e f := he f (by simp [Call.operands, hf])
      simp only [hf, ef]
      split at h
      · try simp only [*]
        exact (hΦ _).loc _ _ _ _ _ _ _ h S
      · simp at h
    · simp at h
  case makeFunc fn first caps =>
    have ea : caps.toList.map e' = caps.toList.map e := List.map_congr_left fun x hx => he x (by simpa using Or.inr hx)
    cases fn <;> simp only [ea] at h ⊢ <;> exact h
  case binOp o t x y z =>
    rw [he x (by simp), he y (by simp)]
    exact h
  case unOp o t x =>
    rw [he x (by simp)]
    exact h
  case field t x f =>
    rw [he x (by simp)]
    exact h
  case index t x i =>
    rw [he x (by simp), he i (by simp)]
    exact h
  case alloc t =>
    repeat' (split at h)
    all_goals try (simp at h; done)
    all_goals
      simp only [Option.some.injEq] at h
      subst h
      simp only [List.cons_append, List.nil_append, List.append_nil, List.map_nil, List.map_cons, List.mem_cons, List.not_mem_nil, or_false, forall_eq, forall_eq_or_imp] at q q2
      first
        | (simp only [*, ↓reduceIte]; done)
        | simp_all
  case box t x =>
    rw [he x (by simp)]
    repeat' (split at h)
    all_goals try (simp at h; done)
    all_goals
      simp only [Option.some.injEq] at h
      subst h
      simp only [List.cons_append, List.nil_append, List.append_nil, List.map_nil, List.map_cons, List.mem_cons, List.not_mem_nil, or_false, forall_eq, forall_eq_or_imp] at q q2
      first
        | (simp only [*, ↓reduceIte]; done)
        | simp_all
  all_goals
    (repeat' (split at h))
    all_goals try (simp at h; done)
    all_goals
      try simp only [Option.some.injEq] at h
      try subst h
      try simp only [List.cons_append, List.nil_append, List.append_nil, List.map_nil, List.map_cons, List.mem_cons, List.not_mem_nil, or_false, forall_eq, forall_eq_or_imp] at q q2
      first
        | (simp only [*, ↓reduceIte]; done)
        | simp_all
end
end Go.Fx

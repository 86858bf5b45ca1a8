/- The reflective executor, part 5: operations on values. -/
import Derived.Test.YtoppnaekfjjaaaaFw4
set_option linter.unusedVariables false
set_option linter.unusedSimpArgs false
set_option autoImplicit false
namespace Go.Fx
open Go
section
variable {P : Program} {w0 : World} {W0 : Nat → Prop} {objs : Nat → Option AO} {φ : Nat → Option (Nat × Nat)} {seen : Nat → Bool} {w : World} {ty : Ty}

theorem cellsOf_eq {t : TypeId} {i : TypeInfo} (h : P.info? t = some i) : P.cellsOf t = i.size := by simp [Program.cellsOf, h]

theorem isAgg_run {t : TypeId} {d : TypeDesc} (h : P.underlying t = some d) : (isAgg t).run P w = .ok (match d with | .struct _ | .array _ _ => true | _ => false) w := by
  unfold isAgg
  rw [Sem.run_bind, run_underlying h]
  cases d <;> simp

theorem eqItems_cells {Γ : Ctx} {e : TypeId} {k : IntKind} (he : P.underlying e = some (.int k)) (d : Nat) : ∀ (cs ds : List SV) (r : Bool), eqCells cs ds = some r → ∀ (as bs : List Value) (s : Nat) (X Y : Array Value),
    SV.repL Γ cs as → SV.repL Γ ds bs → (∀ j, X[s + j]? = as[j]?) → (∀ j, Y[s + j]? = bs[j]?) → (Op.eqItems (d + 1) e 1 X Y (List.range' s cs.length)).run P w = .ok r w
  | [], [], r, h, as, bs, s, X, Y, _, _, _, _ => by
    simp [eqCells] at h
    subst h
    simp [Op.eqItems]
  | c1 :: xs, c2 :: ys, r, h, as, bs, s, X, Y, ha, hb, hX, hY => by
    cases c1
    case int k1 a =>
      cases c2
      case int k2 b =>
        simp only [eqCells] at h
        split at h
        · rename_i hk
          subst hk
          cases hr : eqCells xs ys with
          | none => simp [hr] at h
          | some r' =>
            simp only [hr, Option.some.injEq] at h
            subst h
            obtain ⟨u, us, rfl, hu, hus⟩ := ha
            obtain ⟨v, vs, rfl, hv, hvs⟩ := hb
            simp only [SV.rep] at hu hv
            subst hu hv
            have ih := eqItems_cells (Γ := Γ) he d xs ys r' hr us vs (s + 1) X Y hus hvs
              (fun j => by have := hX (j + 1); rw [show s + (j + 1) = s + 1 + j by omega] at this; simpa using this)
              (fun j => by have := hY (j + 1); rw [show s + (j + 1) = s + 1 + j by omega] at this; simpa using this)
            have x0 := hX 0
            have y0 := hY 0
            simp only [Nat.add_zero, List.getElem?_cons_zero] at x0 y0
            have hag : (isAgg e).run P w = .ok false w := isAgg_run he
            have px : (part e X (s * 1)).run P w = .ok (.int k1 a) w := by
              simp only [part, Sem.run_bind, hag, Result.andThen_ok, Bool.false_eq_true, if_false, Nat.mul_one, x0, Sem.run_pure]
            have py : (part e Y (s * 1)).run P w = .ok (.int k1 b) w := by
              simp only [part, Sem.run_bind, hag, Result.andThen_ok, Bool.false_eq_true, if_false, Nat.mul_one, y0, Sem.run_pure]
            simp only [List.length_cons, List.range'_succ, Op.eqItems, Sem.run_bind, px, py, Result.andThen_ok, run_equalIn_int w d e k1 k a b he]
            by_cases hab : a = b
            · subst hab
              simp [ih]
            · have : (a == b) = false := by simp [hab]
              simp [this, hab]
        · simp at h

      all_goals simp [eqCells] at h
    all_goals simp [eqCells] at h
  | [], _ :: _, r, h, _, _, _, _, _, _, _, _, _ => by simp [eqCells] at h
  | c :: _, [], r, h, _, _, _, _, _, _, _, _, _ => by cases c <;> simp [eqCells] at h

theorem eqGuardType_arr {t e : TypeId} {n : Nat} {k : IntKind} (ht : P.underlying t = some (.array n e)) (he : P.underlying e = some (.int k)) : P.eqGuardType P.depth t = false := by
  unfold Program.depth
  generalize 2 * (P.types.size + Made.depth) = m
  simp [Program.eqGuardType, ht, he]

theorem eqAggK_ok (hT : TyOk P ty) {Γ : Ctx} {op : BinOp} {t : TypeId} {xs ys : List SV} {v : SV} {xo yo : Operand} {as bs : List Value} (h : eqAggK ty t op xs ys some = some v)
    (hx : SV.repL Γ xs as) (hy : SV.repL Γ ys bs) :
    ∃ u, (do eqGuard op t xo yo (.agg as.toArray) (.agg bs.toArray); binOp op t (.agg as.toArray) (.agg bs.toArray) : Sem Value).run P w = .ok u w ∧ v.rep Γ u := by
  unfold eqAggK at h
  split at h
  · rename_i n u hk
    split at h
    · rename_i k r hku hb hr
      simp only [Bool.and_eq_true] at hb
      obtain ⟨⟨hb1, hb2⟩, hb3⟩ := hb
      have hb1 := Nat.eq_of_beq_eq_true hb1
      have hb2 := Nat.eq_of_beq_eq_true hb2
      have ht := ty_arr hT hk
      have hu := ty_int hT hku
      obtain ⟨d, i, z, _, hi, _, hsz, _⟩ := (ty_kind hT hku (by simp)).ok
      have hc : P.cellsOf u = 1 := by rw [cellsOf_eq hi, hsz, hb1]
      have hrun : (Op.equalIn 10000 t (.agg as.toArray) (.agg bs.toArray)).run P w = .ok r w := by
        rw [run_equalIn_array w 9999 as.toArray bs.toArray ht hi, hc, List.range_eq_range', ← hb2]
        exact eqItems_cells hu 9998 xs ys r hr as bs 0 _ _ hx hy (fun j => by simp) (fun j => by simp)
      rw [Sem.run_bind, run_eqGuard_agg w op t xo yo _ _ (eqGuardType_arr ht hu)]
      simp only [Result.andThen_ok]
      split at h
      · simp only [Option.some.injEq] at h
        subst h
        exact ⟨_, by rw [run_eql_struct, hrun]; rfl, rfl⟩
      · simp only [Option.some.injEq] at h
        subst h
        exact ⟨_, by rw [run_neq_struct, hrun]; rfl, rfl⟩
      · simp at h
    · simp at h
  · simp at h

theorem unK_ok {Γ : Ctx} {op : UnOp} {x v : SV} {a : Value} (h : unK op x some = some v) (hx : x.rep Γ a) : ∃ u, (Op.unary op a).run P w = .ok u w ∧ v.rep Γ u := by
  unfold unK at h
  split at h
  · simp only [Option.some.injEq] at h
    simp only [SV.rep] at hx
    subst h hx
    exact ⟨_, rfl, rfl⟩
  · simp only [Option.some.injEq] at h
    simp only [SV.rep] at hx
    subst h hx
    refine ⟨_, ?_, rfl⟩
    simp [Op.unary, Op.intArith]
  · simp at h

end
end Go.Fx

/- The reflective executor, part 10: literals, make, append. -/
import Derived.Test.YtoppnaekfjjaaaaFw9
set_option linter.unusedVariables false
set_option linter.unusedSimpArgs false
set_option autoImplicit false
namespace Go.Fx
open Go
section
variable {P : Program} {w0 : World} {W0 : Nat → Prop} {objs : Nat → Option AO} {φ : Nat → Option (Nat × Nat)} {seen : Nat → Bool} {w : World} {ty : Ty}

/-! ### 1. Structs and arrays by parts -/
theorem foldl_set (us : List Value) : ∀ (k off : Nat) (cs : Array Value), off + k + us.length ≤ cs.size →
    ((us.zipIdx k).foldl (fun cs (x : Value × Nat) => cs.setIfInBounds (off + x.2) x.1) cs).toList = cs.toList.take (off + k) ++ us ++ cs.toList.drop (off + k + us.length) := by
  induction us with
  | nil => intro k off cs h; simp
  | cons u us ih =>
    intro k off cs h
    simp only [List.length_cons] at h
    rw [List.zipIdx_cons, List.foldl_cons, ih (k + 1) off _ (by simp; omega)]
    have hl : off + k < cs.toList.length := by simp; omega
    have e1 : (cs.setIfInBounds (off + k) u).toList = cs.toList.set (off + k) u := by simp
    rw [e1]
    have h1 : (cs.toList.set (off + k) u).take (off + (k + 1)) = cs.toList.take (off + k) ++ [u] := by
      rw [show off + (k + 1) = off + k + 1 by omega, List.take_succ_eq_append_getElem (by simpa using hl), List.take_set_of_le (Nat.le_refl _)]
      simp
    have h2 : (cs.toList.set (off + k) u).drop (off + (k + 1) + us.length) = cs.toList.drop (off + k + (u :: us).length) := by
      rw [List.drop_set_of_lt (by omega)]
      congr 1
      simp
      omega
    rw [h1, h2]
    simp

theorem foldl_set' (us : Array Value) (off : Nat) (cs : Array Value) (h : off + us.size ≤ cs.size) :
    (us.zipIdx.foldl (fun cs (x : Value × Nat) => cs.setIfInBounds (off + x.2) x.1) cs).toList = cs.toList.take off ++ us.toList ++ cs.toList.drop (off + us.size) := by
  have := foldl_set us.toList 0 off cs (by simpa using h)
  rw [← Array.foldl_toList]
  simpa using this

theorem buildParts_ok {Γ : Ctx} {place : Nat → Option (Nat × Nat)} : ∀ {parts : List (Nat × SV)} {vparts : List (Nat × Value)} {cells : List SV} {vcells : Array Value} {out : List SV},
    buildParts place cells parts = some out → parts.length = vparts.length → (∀ (i : Nat) (p : Nat × SV) (q : Nat × Value), parts[i]? = some p → vparts[i]? = some q → p.1 = q.1 ∧ p.2.rep Γ q.2) → SV.repL Γ cells vcells.toList →
    ∃ vout, Instr.fill place vcells vparts = some vout ∧ SV.repL Γ out vout.toList
  | [], [], cells, vcells, out, h, _, _, hr => by
    simp only [buildParts, Option.some.injEq] at h
    subst h
    exact ⟨vcells, rfl, hr⟩
  | [], _ :: _, _, _, _, _, hl, _, _ => by simp at hl
  | _ :: _, [], _, _, _, _, hl, _, _ => by simp at hl
  | (i, c) :: parts, (i', v) :: vparts, cells, vcells, out, h, hl, hp, hr => by
    obtain ⟨rfl, hrc⟩ := hp 0 _ _ rfl rfl
    simp only [buildParts] at h
    simp only [Instr.fill]
    cases hpl : place i with
    | none => simp [hpl] at h
    | some q =>
      obtain ⟨off, size⟩ := q
      simp only [hpl] at h ⊢
      split at h
      · rename_i hb
        simp only [Bool.and_eq_true] at hb
        obtain ⟨⟨hb1, hb2⟩, hb3⟩ := hb
        have hb1 := Nat.eq_of_beq_eq_true hb1
        have hb2 := Nat.le_of_ble_eq_true hb2
        obtain ⟨hrc', _⟩ := svCells_rep hb3 hrc
        have hlen := repL_length hrc'
        have hlen2 := repL_length hr
        simp only [Array.length_toList] at hlen hlen2
        have e : ¬ ((decide (v.cells.size ≠ size) || decide (off + v.cells.size > vcells.size)) = true) := by simp; omega
        rw [if_neg e]
        refine buildParts_ok h (by simpa using hl) (fun k p q h1 h2 => hp (k + 1) p q (by simpa using h1) (by simpa using h2)) ?_
        rw [foldl_set' _ _ _ (by omega), fillL_eq _ _ _ hb2]
        have := repL_splice hr hrc' off
        simpa using this
      · simp at h

theorem map_parts {Γ : Ctx} {slots : Nat → SV} {a : Act} (hev : ∀ x, (ev slots x).rep Γ (a.eval x)) (parts : Array (Nat × Operand)) :
    (parts.toList.map fun p => (p.1, ev slots p.2)).length = (parts.toList.map fun p => (p.1, a.eval p.2)).length ∧
    ∀ (i : Nat) (p : Nat × SV) (q : Nat × Value), (parts.toList.map fun p => (p.1, ev slots p.2))[i]? = some p → (parts.toList.map fun p => (p.1, a.eval p.2))[i]? = some q → p.1 = q.1 ∧ p.2.rep Γ q.2 := by
  refine ⟨by simp, fun i p q hp hq => ?_⟩
  simp only [List.getElem?_map, Option.map_eq_some_iff] at hp hq
  obtain ⟨x, hx, rfl⟩ := hp
  obtain ⟨y, hy, rfl⟩ := hq
  rw [hx] at hy
  cases hy
  exact ⟨rfl, hev _⟩

theorem mapM_sizes {fs : Array Field} (hk : ∀ f ∈ fs.toList, TyAt P f.type (ty f.type)) :
    (fs.mapM fun f => do pure (f.offset, ← sizeOf f.type) : Sem (Array (Nat × Nat))).run P w = .ok (fs.map fun f => (f.offset, (ty f.type).size)) w := by
  have key : ∀ (l : List Field), (∀ f ∈ l, TyAt P f.type (ty f.type)) → (l.mapM fun f => do pure (f.offset, ← sizeOf f.type) : Sem (List (Nat × Nat))).run P w = .ok (l.map fun f => (f.offset, (ty f.type).size)) w := by
    intro l
    induction l with
    | nil => intro _; simp
    | cons f l ih =>
      intro h
      rw [List.mapM_cons]
      simp only [Sem.run_bind, sizeOf_ty (h f (by simp)), Result.andThen_ok, Sem.run_pure, ih (fun x hx => h x (by simp [hx])), List.map_cons]
  have := key fs.toList hk
  rw [Array.mapM_eq_mapM_toList]
  simp only [Functor.map] 
  show (Sem.bind _ _).run P w = _
  rw [Sem.run_bind', this]
  simp
  apply Array.ext'
  simp

theorem build_ok (hT : TyOk P ty) {Γ : Ctx} {slots : Nat → SV} {a : Act} (hev : ∀ x, (ev slots x).rep Γ (a.eval x)) {t : Nat} {parts : Array (Nat × Operand)} {cs : List SV} (hbig : (ty t).big = false)
    (h : (∃ fs, (ty t).kind = .struct fs ∧ fs.all (fun p => (ty p.1).known) = true ∧ buildParts (fun i => match fs[i]? with | some (u, o) => some (o, (ty u).size) | none => none) (ty t).zero (parts.toList.map fun p => (p.1, ev slots p.2)) = some cs) ∨
      (∃ n u, (ty t).kind = .arr n u ∧ (ty u).known = true ∧ buildParts (fun i => some (i * (ty u).size, (ty u).size)) (ty t).zero (parts.toList.map fun p => (p.1, ev slots p.2)) = some cs)) :
    ∃ v, (Instr.build t (parts.map fun (i, x) => (i, a.eval x))).run P w = .ok v w ∧ (SV.agg cs).rep Γ v := by
  obtain ⟨hl, hp⟩ := map_parts hev parts
  have hmap : (parts.map fun (x : Nat × Operand) => (x.1, a.eval x.2)).toList = parts.toList.map fun p => (p.1, a.eval p.2) := by simp
  rcases h with ⟨fs, hk, hall, hb⟩ | ⟨n, u, hk, hku, hb⟩
  · obtain ⟨d, i, z, _, hi, _, _, _, hz, hz1, _⟩ := (ty_kind hT hk (by simp)).ok
    obtain ⟨hr, _, _⟩ := zeroOk_rep (Γ := Γ) (hz1 hbig)
    obtain ⟨fa, hfa, hm⟩ := ty_struct hT hk
    obtain ⟨vout, hf, hvr⟩ := buildParts_ok hb hl hp hr
    have hkn : ∀ f ∈ fa.toList, TyAt P f.type (ty f.type) := by
      intro f hf
      have : (f.type, f.offset) ∈ fs := by rw [← hm]; exact List.mem_map.2 ⟨f, hf, rfl⟩
      exact ty_known hT (by simpa using List.all_eq_true.1 hall _ this)
    have hpl : (fun i : Nat => (match fs[i]? with | some (u, o) => some (o, (ty u).size) | none => none : Option (Nat × Nat))) = fun i : Nat => (fa.map fun f => (f.offset, (ty f.type).size))[i]? := by
      funext i
      rw [← hm]
      simp only [List.getElem?_map, Array.getElem?_map, Array.getElem?_toList]
      cases fa[i]? <;> rfl
    rw [hpl] at hf
    refine ⟨.agg vout, ?_, ⟨vout.toList, by simp, hvr⟩⟩
    have hs := mapM_sizes (P := P) (w := w) hkn
    simp only [Instr.build, Sem.run_bind, zeroValue, typeInfo, run_program, Result.andThen_ok, hi, Sem.run_pure, hz, run_underlying hfa, hs, hmap, hf]
  · obtain ⟨d, i, z, _, hi, _, _, _, hz, hz1, _⟩ := (ty_kind hT hk (by simp)).ok
    obtain ⟨hr, _, _⟩ := zeroOk_rep (Γ := Γ) (hz1 hbig)
    obtain ⟨vout, hf, hvr⟩ := buildParts_ok hb hl hp hr
    refine ⟨.agg vout, ?_, ⟨vout.toList, by simp, hvr⟩⟩
    simp only [Instr.build, Sem.run_bind, zeroValue, typeInfo, run_program, Result.andThen_ok, hi, Sem.run_pure, hz, run_underlying (ty_arr hT hk), sizeOf_ty (ty_known hT hku), hmap, hf]

theorem buildBig_ok (hT : TyOk P ty) {Γ : Ctx} {t n u : Nat} (hbig : (ty t).big = true) (hk : (ty t).kind = .arr n u) (hku : (ty u).known = true) :
    ∃ v, (Instr.build t #[]).run P w = .ok v w ∧ (SV.ints (ty t).size (List.replicate (ty t).size 0)).rep Γ v := by
  obtain ⟨d, i, z, _, hi, _, _, _, hz, _, hz2, _⟩ := (ty_kind hT hk (by simp)).ok
  have hzz := zeroOk_zeros (hz2 hbig).1
  have hza : z.cells = ((List.replicate (ty t).size (0 : Int)).map (Value.int .i64)).toArray := by
    apply Array.ext'
    rw [hzz]
    simp
  refine ⟨.agg z.cells, ?_, ⟨by simp, by rw [hza]⟩⟩
  simp only [Instr.build, Sem.run_bind, zeroValue, typeInfo, run_program, Result.andThen_ok, hi, Sem.run_pure, hz, run_underlying (ty_arr hT hk), sizeOf_ty (ty_known hT hku)]
  simp [Instr.fill]

end
end Go.Fx

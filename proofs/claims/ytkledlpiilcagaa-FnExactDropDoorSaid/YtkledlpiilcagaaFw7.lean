/- The reflective executor, part 7: stores. -/
import Derived.Test.YtkledlpiilcagaaFw6
set_option linter.unusedVariables false
set_option linter.unusedSimpArgs false
set_option autoImplicit false
namespace Go.Fx
open Go
section
variable {P : Program} {w0 : World} {W0 : Nat → Prop} {objs : Nat → Option AO} {φ : Nat → Option (Nat × Nat)} {seen : Nat → Bool} {w : World} {ty : Ty}

theorem bsOf_setRow {b : Nat} {cur cur' : Array Value} {T : Nat} (hcur : w.heap[b]? = some (.cells cur T (0, 0))) (hsz : cur'.size = cur.size) (b' : Nat) : bsOf (w.setRow b cur') b' = bsOf w b' := by
  unfold bsOf
  by_cases h : b' = b
  · subst h
    rw [setRow_heap w b' cur cur' T (0, 0) hcur, hcur]
    exact hsz
  · rw [setRow_other w b b' cur' h]

theorem Heap.write (H : Heap w0 W0 (G objs φ seen w) w) {h : Nat} {a a' : AO} {b o : Nat} {cur cur' : Array Value} {T : Nat}
    (ho : objs h = some a) (hro : a.ro = false) (hp : φ h = some (b, o)) (hl : a.like a') (hcur : w.heap[b]? = some (.cells cur T (0, 0))) (hsz : cur'.size = cur.size)
    (hrep : ∀ Γ' : Ctx, (G objs φ seen w).le Γ' → Γ'.φ h = some (b, o) → oRep Γ' (w.setRow b cur') h a') :
    Heap w0 W0 (G (upd objs h (some a')) φ (upd seen h true) (w.setRow b cur')) (w.setRow b cur') ∧
    (G objs φ seen w).le (G (upd objs h (some a')) φ (upd seen h true) (w.setRow b cur')) := by
  have hle : (G objs φ seen w).le (G (upd objs h (some a')) φ (upd seen h true) (w.setRow b cur')) := by
    refine le_of (fun x hx => ?_) (fun x hx => ?_)
    · show upd seen h true x = true
      rw [upd_eq]; split
      · rfl
      · exact hx
    · by_cases e : x = h
      · subst e
        refine .inr ⟨a, a', ho, upd_same _ _ _, hl, rfl, fun b' o' _ => bsOf_setRow hcur hsz b'⟩
      · show upd objs h (some a') x = none ∨ _
        rw [upd_ne _ _ e]
        cases hx' : objs x with
        | none => exact .inl rfl
        | some y => exact .inr ⟨y, y, hx', by show upd objs h (some a') x = some y; rw [upd_ne _ _ e]; exact hx', AO.like.refl y, rfl, fun b' o' _ => bsOf_setRow hcur hsz b'⟩
  have hro' : a'.ro = false := by
    obtain ⟨r1, o1⟩ := a
    obtain ⟨r2, o2⟩ := a'
    simp only at hro
    subst hro
    cases o1 <;> cases o2 <;> simp only [AO.like] at hl
    · exact hl.symm
    · exact hl.1.symm
    · exact hl.1.symm
  have hb : w0.heap.size ≤ b ∨ W0 b := H.own h a b o ho hro hp
  refine ⟨H.step h a' (some b) hle rfl rfl rfl (by simp) (fun b' _ hne => setRow_other w b b' cur' (fun e => hne (by rw [e]))) (fun b' e => by cases e; exact hb) (fun b' e => by cases e; exact ⟨cur, cur', T, hcur, setRow_heap w b cur cur' T (0, 0) hcur, hsz⟩) (fun _ => rfl) ?_ (upd_same _ _ _) (upd_same _ _ _) (hrep _ hle hp) ?_, hle⟩
  · intro x y hne hy
    have hy' : upd objs h (some a') x = some y := hy
    rw [upd_ne _ _ hne] at hy'
    refine ⟨hy', rfl, fun b' o' hb' e => ?_⟩
    cases e
    have := (H.sep x h y a b o' o hy' ho hb' hp hne).2
    rw [hro] at this
    cases this
  · intro b' o' hb'
    have hb'' : φ h = some (b', o') := hb'
    rw [hp] at hb''
    cases hb''
    refine ⟨by simpa using H.lt h a b o ho hp, ?_, fun _ => hb⟩
    intro x y o'' hne hy hbb
    have hy' : upd objs h (some a') x = some y := hy
    rw [upd_ne _ _ hne] at hy'
    have := (H.sep x h y a b o'' o hy' ho hbb hp hne).2
    rw [hro] at this
    cases this

theorem fillL_eq : ∀ (vs cs : List SV) (off : Nat), off + vs.length ≤ cs.length → fillL cs off vs = cs.take off ++ vs ++ cs.drop (off + vs.length)
  | [], cs, off, _ => by simp [fillL]
  | v :: vs, cs, off, h => by
    have hl : off < cs.length := by simp at h; omega
    rw [fillL, fillL_eq vs (cs.set off v) (off + 1) (by simp at h ⊢; omega)]
    have h1 : (cs.set off v).take (off + 1) = cs.take off ++ [v] := by
      rw [List.take_succ_eq_append_getElem (by simpa using hl), List.take_set_of_le (Nat.le_refl _)]
      simp
    have h2 : (cs.set off v).drop (off + 1 + vs.length) = cs.drop (off + (v :: vs).length) := by
      rw [List.drop_set_of_lt (by omega)]
      congr 1
      simp
      omega
    rw [h1, h2]
    simp

theorem splice_get {α : Type} (cur us : List α) (off i : Nat) (h : off + us.length ≤ cur.length) :
    (cur.take off ++ us ++ cur.drop (off + us.length))[i]? = if off ≤ i ∧ i < off + us.length then us[i - off]? else cur[i]? := by
  by_cases h1 : i < off
  · rw [if_neg (by omega), List.append_assoc, List.getElem?_append_left (by simp; omega), List.getElem?_take, if_pos h1]
  · by_cases h2 : i < off + us.length
    · rw [if_pos ⟨by omega, h2⟩, List.getElem?_append_left (by simp; omega), List.getElem?_append_right (by simp; omega)]
      simp only [List.length_take]
      congr 1
      omega
    · rw [if_neg (by omega), List.getElem?_append_right (by simp; omega), List.getElem?_drop]
      simp only [List.length_append, List.length_take]
      congr 1
      omega
theorem splice_length {α : Type} (cur us : List α) (off : Nat) (h : off + us.length ≤ cur.length) : (cur.take off ++ us ++ cur.drop (off + us.length)).length = cur.length := by
  simp; omega

theorem repL_splice {Γ : Ctx} {cs us : List SV} {vs xs : List Value} (h : SV.repL Γ cs vs) (k : SV.repL Γ us xs) (i : Nat) : SV.repL Γ (cs.take i ++ us ++ cs.drop (i + us.length)) (vs.take i ++ xs ++ vs.drop (i + xs.length)) := by
  have := repL_length k
  rw [this]
  exact repL_append (repL_append (repL_take h i) k) (repL_drop h _)

theorem storeCells_ok {b o : Nat} {cur : Array Value} {T : Nat} (hcur : w.heap[b]? = some (.cells cur T (0, 0))) (us : List Value) (h : o + us.length ≤ cur.size) (h1 : ∀ u ∈ us, u.oneCell' = true) :
    (storeCells ⟨b, o, none⟩ us).run P w = .ok () (w.setRow b (cur.toList.take o ++ us ++ cur.toList.drop (o + us.length)).toArray) := by
  have := run_storeCells_at P b o T us 0 cur w hcur (by simpa using h) h1
  simpa using this

theorem storeVar_ok {t : Nat} (hty : TyAt P t (ty t)) {b o : Nat} {cur : Array Value} {T : Nat} (hcur : w.heap[b]? = some (.cells cur T (0, 0))) (v : Value) (hs : v.cells.size = (ty t).size) (h : o + v.cells.size ≤ cur.size)
    (h1 : ∀ u ∈ v.cells.toList, u.oneCell' = true) :
    (Instr.storeAt t (.pointer (some ⟨b, o, none⟩)) v).run P w = .ok () (w.setRow b (cur.toList.take o ++ v.cells.toList ++ cur.toList.drop (o + v.cells.toList.length)).toArray) := by
  simp only [Instr.storeAt, Instr.sureAddr, storeVar, Sem.run_bind, Sem.run_pure, Result.andThen_ok, sizeOf_ty hty, hs, ne_eq, not_true_eq_false, if_false]
  exact storeCells_ok hcur _ (by simpa using h) h1

theorem like_cells (ro : Bool) (cs cs' : List SV) : AO.like ⟨ro, .cells cs⟩ ⟨ro, .cells cs'⟩ := rfl
theorem like_row (ro : Bool) (e : EK) (l l' : List e.den) (h : l.length = l'.length) : AO.like ⟨ro, .row e l⟩ ⟨ro, .row e l'⟩ := ⟨rfl, rfl, h⟩
theorem like_arr (ro : Bool) (n : Nat) (l l' : List Int) : AO.like ⟨ro, .arr n l⟩ ⟨ro, .arr n l'⟩ := ⟨rfl, rfl⟩

theorem encAll_set (e : EK) (l : List e.den) (i : Nat) (x : e.den) (h : i < l.length) : encAll e (l.set i x) = (encAll e l).take (i * e.sz) ++ e.enc x ++ (encAll e l).drop (i * e.sz + (e.enc x).length) := by
  rw [List.set_eq_take_append_cons_drop, if_pos h, encAll_append, encAll_take]
  have : encAll e (x :: l.drop (i + 1)) = e.enc x ++ encAll e (l.drop (i + 1)) := by simp [encAll]
  rw [this, encAll_drop, enc_length, Nat.succ_mul, List.append_assoc]

/-- A store into a row. -/
theorem row_write (H : Heap w0 W0 (G objs φ seen w) w) {h b o i j : Nat} {e : EK} {l : List e.den} {x : e.den} {us : List Value} (ho : objs h = some ⟨false, .row e l⟩) (hp : φ h = some (b, o)) (hi : i < l.length)
    (hj : j + us.length ≤ e.sz) (hx : e.enc x = (e.enc (l.getD i e.dflt)).take j ++ us ++ (e.enc (l.getD i e.dflt)).drop (j + us.length)) :
    ∃ cur T, w.heap[b]? = some (.cells cur T (0, 0)) ∧ o + i * e.sz + j + us.length ≤ cur.size ∧
      Heap w0 W0 (G (upd objs h (some ⟨false, .row e (l.set i x)⟩)) φ (upd seen h true) (w.setRow b (cur.toList.take (o + i * e.sz + j) ++ us ++ cur.toList.drop (o + i * e.sz + j + us.length)).toArray))
        (w.setRow b (cur.toList.take (o + i * e.sz + j) ++ us ++ cur.toList.drop (o + i * e.sz + j + us.length)).toArray) ∧
      (G objs φ seen w).le (G (upd objs h (some ⟨false, .row e (l.set i x)⟩)) φ (upd seen h true) (w.setRow b (cur.toList.take (o + i * e.sz + j) ++ us ++ cur.toList.drop (o + i * e.sz + j + us.length)).toArray)) := by
  rcases H.obj h _ ho with ⟨hn, _⟩ | ⟨b', o', hp', hc, hw⟩
  · simp [hp] at hn
  · have hp2 : φ h = some (b', o') := hp'
    rw [hp] at hp2
    simp only [Option.some.injEq, Prod.mk.injEq] at hp2
    obtain ⟨rfl, rfl⟩ := hp2
    obtain ⟨cur, T, hcur, hsz⟩ := hw rfl
    have hmul : (i + 1) * e.sz ≤ l.length * e.sz := Nat.mul_le_mul_right _ hi
    rw [Nat.succ_mul] at hmul
    have hfit : o + i * e.sz + j + us.length ≤ cur.size := by omega
    refine ⟨cur, T, hcur, hfit, ?_⟩
    refine H.write ho rfl hp (like_row _ _ _ _ (by simp)) hcur (by simp; omega) fun Γ' hle hp' => .inr ⟨b, o, hp', ?_, fun _ => ⟨_, T, setRow_heap w b cur _ T (0, 0) hcur, by simp; omega⟩⟩
    intro k v hv
    have hcell : (w.setRow b (cur.toList.take (o + i * e.sz + j) ++ us ++ cur.toList.drop (o + i * e.sz + j + us.length)).toArray).cell? ⟨b, o + k, none⟩ =
        (cur.toList.take (o + i * e.sz + j) ++ us ++ cur.toList.drop (o + i * e.sz + j + us.length))[o + k]? := by
      rw [cell_setRow_same w b (o + k) cur _ T (0, 0) hcur]
      simp
    rw [hcell, splice_get _ _ _ _ (by simpa using hfit)]
    have hold : ∀ k u, (encAll e l)[k]? = some u → cur.toList[o + k]? = some u := by
      intro k u hu
      have := hc k u hu
      simpa [World.cell?, hcur] using this
    rw [encAll_set e l i x hi, splice_get _ _ _ _ (by rw [enc_length, encAll_length]; omega)] at hv
    split at hv
    · rename_i hr
      rw [enc_length] at hr
      rw [hx, splice_get _ _ _ _ (by rw [enc_length]; exact hj)] at hv
      split at hv
      · rename_i hr2
        rw [if_pos ⟨by omega, by omega⟩]
        rw [← hv]
        congr 1
        omega
      · rename_i hr2
        rw [if_neg (by omega)]
        have := encAll_get e l i (k - i * e.sz) hi (by omega)
        rw [show i * e.sz + (k - i * e.sz) = k by omega] at this
        rw [← this] at hv
        exact hold k v hv
    · rename_i hr
      rw [enc_length] at hr
      rw [if_neg (by omega)]
      exact hold k v hv

theorem store_ok (hT : TyOk P ty) (H : Heap w0 W0 (G objs φ seen w) w) {t : Nat} {x c : SV} {a u : Value} {e : Eff} (h : storeK ty t x c objs some = some e) (r : x.rep (G objs φ seen w) a) (rc : c.rep (G objs φ seen w) u) :
    ∃ w', (Instr.storeAt t a u).run P w = .ok () w' ∧ e.val = .top ∧ Heap w0 W0 (Af objs seen e φ w') w' ∧ (G objs φ seen w).le (Af objs seen e φ w') := by
  unfold storeK at h
  split at h
  · simp at h
  rename_i hkn
  have hty := ty_known hT hkn
  split at h
  · rename_i hh i
    cases ho : objs hh with
    | none => simp [ho] at h
    | some a0 =>
      obtain ⟨ro, o0⟩ := a0
      cases ro
      case true => simp [ho] at h
      cases o0 with
      | cells cs =>
        obtain ⟨_, _, hp⟩ := r
        simp only [Ctx.ptrOk, ho] at hp
        obtain ⟨b, o, hφ, rfl⟩ := hp
        obtain ⟨b', o', hφ', vs, hr, h1, hc, hw⟩ := H.obj hh _ ho
        have hφ2 : φ hh = some (b', o') := hφ'
        rw [hφ] at hφ2
        simp only [Option.some.injEq, Prod.mk.injEq] at hφ2
        obtain ⟨rfl, rfl⟩ := hφ2
        obtain ⟨T, rfl, hcur⟩ := hw rfl
        simp only [ho] at h
        split at h
        · rename_i hb
          simp only [Bool.and_eq_true] at hb
          obtain ⟨⟨hb1, hb2⟩, hb3⟩ := hb
          have hb1 := Nat.eq_of_beq_eq_true hb1
          have hb2 := Nat.le_of_ble_eq_true hb2
          simp only [Option.some.injEq] at h
          subst h
          obtain ⟨hrc, hone⟩ := svCells_rep hb3 rc
          have hlen := repL_length hrc
          have hl := repL_length hr
          have hfit : i + u.cells.toList.length ≤ vs.length := by omega
          have hst := storeVar_ok hty (o := 0 + i) hcur u (by rw [← hb1, hlen]; simp) (by simp at hfit ⊢; omega) hone
          refine ⟨_, hst, rfl, ?_⟩
          refine H.write ho rfl hφ (like_cells _ _ _) hcur (by simp at hfit ⊢; omega) fun Γ' hle hp' => ?_
          refine ⟨b, 0, hp', vs.take i ++ u.cells.toList ++ vs.drop (i + u.cells.toList.length), ?_, ?_, ?_, fun _ => ⟨T, rfl, ?_⟩⟩
          · rw [fillL_eq _ _ _ hb2]
            exact repL_splice (SV.repL_le hle _ _ hr) (SV.repL_le hle _ _ hrc) i
          · intro v hv
            simp only [List.mem_append] at hv
            rcases hv with (hv | hv) | hv
            · exact h1 v (List.mem_of_mem_take hv)
            · exact hone v hv
            · exact h1 v (List.mem_of_mem_drop hv)
          · intro k v hv
            rw [cell_setRow_same w b _ _ _ T (0, 0) hcur]
            simpa using hv
          · have := setRow_heap w b vs.toArray (vs.toArray.toList.take (0 + i) ++ u.cells.toList ++ vs.toArray.toList.drop (0 + i + u.cells.toList.length)).toArray T (0, 0) hcur
            simpa using this
        · simp at h
      | row k l => simp [ho] at h
      | arr n l => simp [ho] at h
  · rename_i hh i j
    cases ho : objs hh with
    | none => simp [ho] at h
    | some a0 =>
      obtain ⟨ro, o0⟩ := a0
      cases ro
      case true => simp [ho] at h
      cases o0 with
      | cells cs => simp [ho] at h
      | row k l =>
        obtain ⟨_, _, hp⟩ := r
        simp only [Ctx.pelOk, ho] at hp
        obtain ⟨hi, b, o, hφ, rfl⟩ := hp
        simp only [ho] at h
        split at h
        · split at h
          · rename_i hb
            simp only [Bool.and_eq_true] at hb
            obtain ⟨⟨hb1, hb2⟩, hb3⟩ := hb
            have hb1 := Nat.eq_of_beq_eq_true hb1
            have hb2 := Nat.eq_of_beq_eq_true hb2
            subst hb1
            split at h
            · rename_i x hx
              simp only [Option.some.injEq] at h
              subst h
              obtain ⟨hcs, hone⟩ := ofSV_enc hx rc
              obtain ⟨cur, T, hcur, hfit, hH⟩ := row_write H (j := 0) (us := k.enc x) (x := x) ho hφ hi (by rw [enc_length]; omega) (by
                rw [List.take_zero, List.nil_append, List.drop_of_length_le (by simp [enc_length]), List.append_nil])
              have hst := storeVar_ok hty (o := o + i * k.sz + 0) hcur u (by rw [← Array.length_toList, hcs, enc_length, hb2]) (by rw [← Array.length_toList, hcs]; exact hfit) (by rw [hcs]; exact hone)
              rw [hcs] at hst
              exact ⟨_, hst, rfl, hH⟩
            · simp at h
          · simp at h
        · split at h
          · rename_i x hs hx
            have hs := Nat.eq_of_beq_eq_true hs
            simp only [Option.some.injEq] at h
            subst h
            obtain ⟨hj, henc, hone, hcs⟩ := put_enc hx rc
            obtain ⟨cur, T, hcur, hfit, hH⟩ := row_write H (j := j) (us := [u]) (x := x) ho hφ hi (by simp; omega) (by
              rw [henc, List.set_eq_take_append_cons_drop, if_pos (by rw [enc_length]; exact hj)]
              simp)
            have hst := storeVar_ok hty (o := o + i * k.sz + j) hcur u (by rw [hcs, hs]; rfl) (by rw [hcs]; exact hfit) (by rw [hcs]; simpa using hone)
            rw [hcs] at hst
            exact ⟨_, hst, rfl, hH⟩
          · simp at h
      | arr n l =>
        obtain ⟨_, _, hp⟩ := r
        simp only [Ctx.pelOk, ho] at hp
        obtain ⟨hi, b, o, hφ, rfl⟩ := hp
        obtain ⟨hn, b', o', hφ', hc, hw⟩ := H.obj hh _ ho
        have hφ2 : φ hh = some (b', o') := hφ'
        rw [hφ] at hφ2
        simp only [Option.some.injEq, Prod.mk.injEq] at hφ2
        obtain ⟨rfl, rfl⟩ := hφ2
        obtain ⟨T, rfl, hcur⟩ := hw rfl
        simp only [ho] at h
        split at h
        · split at h
          · have hb := ‹(_ && Nat.beq (ty t).size n) = true›
            simp only [Bool.and_eq_true] at hb
            obtain ⟨hb1, hb2⟩ := hb
            have hb1 := Nat.eq_of_beq_eq_true hb1
            have hb2 := Nat.eq_of_beq_eq_true hb2
            simp only [Option.some.injEq] at h
            subst h
            obtain ⟨hl', rfl⟩ := rc
            refine ⟨_, storeVar_ok hty (o := 0 + 0 + 0) hcur _ (by simp [Value.cells]; omega) (by simp [Value.cells]; omega) (by simp [Value.cells, Value.oneCell']), rfl, ?_⟩
            refine H.write ho rfl hφ (like_arr _ _ _ _) hcur (by simp [Value.cells]; omega) fun Γ' hle hp' => ?_
            have heq : ∀ l' : List Int, l'.length = l.length → ((l.map (Value.int .i64)).toArray.toList.take (0 + 0 + 0) ++ (Value.agg (l'.map (Value.int .i64)).toArray).cells.toList ++
                (l.map (Value.int .i64)).toArray.toList.drop (0 + 0 + 0 + (Value.agg (l'.map (Value.int .i64)).toArray).cells.toList.length)).toArray = (l'.map (Value.int .i64)).toArray := by
              intro l' hl'
              simp [Value.cells]
              omega
            rw [heq _ (by omega)]
            refine ⟨by omega, b, 0, hp', ?_, fun _ => ⟨T, rfl, setRow_heap w b _ _ T (0, 0) hcur⟩⟩
            intro k v hv
            rw [cell_setRow_same w b _ _ _ T (0, 0) hcur]
            simp [hv]
          · simp at h
        · split at h
          · rename_i hs
            have hs := Nat.eq_of_beq_eq_true hs
            simp only [Option.some.injEq] at h
            subst h
            rename_i a' _ _ _ _
            simp only [SV.rep] at rc
            subst rc
            have hst := storeVar_ok hty (o := 0 + i + 0) hcur (.int .i64 a') (by simp [Value.cells]; omega) (by simp [Value.cells]; omega) (by simp [Value.cells, Value.oneCell'])
            refine ⟨_, hst, rfl, ?_⟩
            refine H.write ho rfl hφ (like_arr _ _ _ _) hcur (by simp [Value.cells]; omega) fun Γ' hle hp' => ?_
            have heq : ((l.map (Value.int .i64)).toArray.toList.take (0 + i + 0) ++ (Value.int .i64 a').cells.toList ++
                (l.map (Value.int .i64)).toArray.toList.drop (0 + i + 0 + (Value.int .i64 a').cells.toList.length)).toArray = ((l.set i a').map (Value.int .i64)).toArray := by
              rw [List.set_eq_take_append_cons_drop, if_pos (by omega)]
              simp [Value.cells]
              done
            rw [heq]
            have hrow := setRow_heap w b (l.map (Value.int .i64)).toArray ((l.set i a').map (Value.int .i64)).toArray T (0, 0) hcur
            refine ⟨by simp; omega, b, 0, hp', ?_, fun _ => ⟨T, rfl, hrow⟩⟩
            intro k v hv
            rw [cell_setRow_same w b _ _ _ T (0, 0) hcur]
            have : ((l.set i a').map (Value.int .i64))[k]? = some (Value.int .i64 v) := by rw [List.getElem?_map, hv]; rfl
            simpa using this
          · simp at h
        · simp at h
      
  · simp at h

end
end Go.Fx

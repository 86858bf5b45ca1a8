/- The reflective executor, part 14: one operation that calls no function. -/
import Derived.Test.YtoppnaekfjjaaaaFw13
set_option linter.unusedVariables false
set_option linter.unusedSimpArgs false
set_option autoImplicit false
namespace Go.Fx
open Go
section
variable {P : Program} {w0 : World} {W0 : Nat → Prop} {objs : Nat → Option AO} {φ : Nat → Option (Nat × Nat)} {seen : Nat → Bool} {w : World} {ty : Ty}

theorem does_val (H : Heap w0 W0 (G objs φ seen w) w) {e : Eff} {s : Sem Value} {v : Value} (hs : s.run P w = .ok v w) (hwr : e.wr = []) (hv : e.val.rep (G objs φ seen w) v) :
    Does P w0 W0 objs φ seen w e (do pure (.value (← s)) : Sem Next) :=
  does_pure H (by rw [Sem.run_bind, hs]; rfl) hwr hv

theorem caps_rep {Γ : Ctx} {slots : Nat → SV} {a : Act} (hev : ∀ x, (ev slots x).rep Γ (a.eval x)) : ∀ (l : List Operand), SV.repL Γ (l.map (ev slots)) (l.map a.eval)
  | [] => rfl
  | x :: l => ⟨_, _, rfl, hev x, caps_rep hev l⟩

theorem binK_nat {β : Type} (kd : TK) (op : BinOp) (x y : SV) (K : SV → Option β) : binK kd op x y K = (binK kd op x y some).bind K := by
  unfold binK
  repeat' split
  all_goals first | rfl | simp
theorem unK_nat {β : Type} (op : UnOp) (x : SV) (K : SV → Option β) : unK op x K = (unK op x some).bind K := by
  unfold unK
  repeat' split
  all_goals first | rfl | simp
theorem eqAggK_nat {β : Type} (t : Nat) (op : BinOp) (xs ys : List SV) (K : SV → Option β) : eqAggK ty t op xs ys K = (eqAggK ty t op xs ys some).bind K := by
  unfold eqAggK
  repeat' split
  all_goals first | rfl | simp

theorem getOp_of {α : Type} {l : List α} {x : α} {i : Nat} (h : l[i]? = some x) : True := trivial

theorem opS_does (hT : TyOk P ty) (Φ : Nat → PFn) (H : Heap w0 W0 (G objs φ seen w) w) {slots : Nat → SV} {a : Act} (hev : ∀ x, (ev slots x).rep (G objs φ seen w) (a.eval x)) {o : Oper} {d : Nat} {e : Eff}
    (hnc : ∀ c f, o.op = .call c → c.callee ≠ .value f) (h : opK ty Φ (ev slots) objs seen d o.op some = some e) :
    Does P w0 W0 objs φ seen w e (execOp a.eval o) := by
  obtain ⟨dst, op, rt, pos, after, guard⟩ := o
  simp only at h hnc
  unfold opK at h
  unfold execOp
  simp only
  split at h
  · -- move
    simp only [Option.some.injEq] at h
    subst h
    exact does_pure H rfl rfl (hev _)
  · simp only [Option.some.injEq] at h
    subst h
    exact does_pure H rfl rfl (hev _)
  · -- pick
    rename_i c x y
    split at h
    · rename_i t hc
      have hr := hev c
      rw [hc] at hr
      simp only [SV.rep] at hr
      simp only [hr, asBool]
      split at h
      · rename_i ht
        simp only [Option.some.injEq] at h
        subst h
        subst ht
        exact does_pure H (by simp) rfl (hev _)
      · rename_i ht
        simp only [Option.some.injEq] at h
        subst h
        have ht' : t = false := by simpa using ht
        subst ht'
        exact does_pure H (by simp) rfl (hev _)
    · simp at h
  · -- alloc
    rename_i t
    split at h
    · rename_i hb hbig
      simp only [Option.some.injEq] at h
      subst h
      simp only [Bool.or_eq_false_iff, Bool.not_eq_false'] at hb
      exact alloc_does hT H hb.1 hb.2 hbig
    · rename_i hb hbig
      simp only [Bool.or_eq_false_iff, Bool.not_eq_false'] at hb
      split at h
      · rename_i hpos
        simp only [Option.some.injEq] at h
        subst h
        exact allocBig_does hT H hb.1 hb.2 hbig (Nat.le_of_ble_eq_true hpos)
      · simp at h
    · simp at h
  · -- box
    rename_i t x
    have hr := hev x
    split at h
    · rename_i n l hs hx
      split at h
      · rename_i hpos
        simp only [Option.some.injEq] at h
        subst h
        rw [hx] at hr
        exact boxBig_does H hs (Nat.le_of_ble_eq_true hpos) hr
      · simp at h
    · rename_i v hs hne
      split at h
      · rename_i hc
        simp only [Option.some.injEq] at h
        subst h
        exact box_does H hs hc hr
      · simp at h
    · simp at h
  · -- build
    rename_i t parts
    split at h
    · rename_i fs hbig hk
      split at h
      · rename_i cs hall hb
        simp only [Option.some.injEq] at h
        subst h
        obtain ⟨v, h1, h2⟩ := build_ok (P := P) (w := w) hT hev hbig (.inl ⟨fs, hk, hall, hb⟩)
        exact does_val H h1 rfl h2
      · simp at h
    · rename_i n u hbig hk
      split at h
      · rename_i cs hku hb
        simp only [Option.some.injEq] at h
        subst h
        obtain ⟨v, h1, h2⟩ := build_ok (P := P) (w := w) hT hev hbig (.inr ⟨n, u, hk, hku, hb⟩)
        exact does_val H h1 rfl h2
      · simp at h
    · rename_i n u hbig hk
      split at h
      · rename_i hps hku
        simp only [Option.some.injEq] at h
        subst h
        have hp0 : parts = #[] := by
          apply Array.ext'
          simpa using hps
        subst hp0
        obtain ⟨v, h1, h2⟩ := buildBig_ok (P := P) (w := w) (Γ := G objs φ seen w) hT hbig hk hku
        exact does_val H (by simpa using h1) rfl h2
      · simp at h
    · simp at h
  · -- buildSlice
    rename_i t len parts
    split at h
    · rename_i u hk
      split at h
      · rename_i k hek hs hl
        split at h
        · rename_i l hr
          simp only [Option.some.injEq] at h
          subst h
          simp only [Bool.and_eq_true] at hl
          exact buildSlice_does hT H hev hk hek hs (Nat.eq_of_beq_eq_true hl.1) (Nat.le_of_ble_eq_true hl.2) hr
        · simp at h
      · simp at h
    · simp at h
  · -- load
    obtain ⟨v, h1, h2, h3⟩ := load_ok hT H h (hev _)
    exact does_val H h1 h2 h3
  · -- store
    obtain ⟨w', h1, h2, h3, h4⟩ := store_ok hT H h (hev _) (hev _)
    refine ⟨.skip, undef, w', φ, by rw [Sem.run_bind, h1]; rfl, .inr ⟨rfl, rfl⟩, ?_, h3, h4⟩
    rw [h2]
    trivial
  · -- nilCheck
    rename_i x
    have hr := hev x
    split at h
    · rename_i hh i hx
      rw [hx] at hr
      split at h
      · rename_i ro cs ho
        simp only [Option.some.injEq] at h
        subst h
        have hr' := hr
        obtain ⟨hs, _, hp⟩ := hr
        simp only [Ctx.ptrOk, ho] at hp
        obtain ⟨b, k, _, hv⟩ := hp
        rw [hv] at hr'
        dsimp only
        rw [hv]
        exact does_pure H rfl rfl hr'
      · simp at h
    · rename_i hh i j hx
      rw [hx] at hr
      split at h
      · rename_i ro k l ho
        simp only [Option.some.injEq] at h
        subst h
        have hr' := hr
        obtain ⟨hs, _, hp⟩ := hr
        simp only [Ctx.pelOk, ho] at hp
        obtain ⟨_, b, k, _, hv⟩ := hp
        rw [hv] at hr'
        dsimp only
        rw [hv]
        exact does_pure H rfl rfl hr'
      · simp at h
    · simp at h
  · -- binOp
    rename_i op' t x y q
    have hx := hev x
    have hy := hev y
    split at h
    · rename_i xs ys hxs hys
      rw [hxs] at hx
      rw [hys] at hy
      obtain ⟨as, hxa, hxr⟩ := hx
      obtain ⟨bs, hya, hyr⟩ := hy
      rw [eqAggK_nat, Option.bind_eq_some_iff] at h
      obtain ⟨v, hv, he⟩ := h
      simp only [Option.some.injEq] at he
      subst he
      obtain ⟨u, h1, h2⟩ := eqAggK_ok (P := P) (w := w) (xo := x) (yo := y) hT hv hxr hyr
      dsimp only
      rw [hxa, hya]
      exact does_val H h1 rfl h2
    · rw [binK_nat, Option.bind_eq_some_iff] at h
      obtain ⟨v, hv, he⟩ := h
      simp only [Option.some.injEq] at he
      subst he
      obtain ⟨u, h1, h2⟩ := binK_ok (P := P) (w := w) (xo := x) (yo := y) hT hv hx hy
      exact does_val H h1 rfl h2
  · -- unOp
    rename_i op' q x
    rw [unK_nat, Option.bind_eq_some_iff] at h
    obtain ⟨v, hv, he⟩ := h
    simp only [Option.some.injEq] at he
    subst he
    obtain ⟨u, h1, h2⟩ := unK_ok (P := P) (w := w) hv (hev x)
    exact does_val H h1 rfl h2
  · -- convert
    rename_i s t x
    have hx := hev x
    split at h
    · rename_i k1 k2 k3 n hs ht he
      simp only [Option.some.injEq] at h
      subst h
      rw [he] at hx
      simp only [SV.rep] at hx
      refine does_val H (v := .int k2 (k2.wrap n)) ?_ rfl rfl
      simp [convert, run_underlying (ty_int hT hs), run_underlying (ty_int hT ht), hx, Conv.intToInt]
    · rename_i s' hs ht he
      simp only [Option.some.injEq] at h
      subst h
      rw [he] at hx
      simp only [SV.rep] at hx
      refine does_val H (v := .string s') ?_ rfl rfl
      simp [convert, run_underlying (ty_str hT hs), run_underlying (ty_str hT ht), hx]
    · simp at h
  · -- makeFunc
    rename_i f first caps
    split at h
    · rename_i hf
      simp only [Option.some.injEq] at h
      subst h
      have hfe : first = #[] := by
        apply Array.ext'
        simpa using hf
      subst hfe
      refine does_val H (v := .func (.func f) #[] (caps.toList.map a.eval).toArray) ?_ rfl ⟨_, rfl, caps_rep hev _⟩
      have hce : caps.map a.eval = (caps.toList.map a.eval).toArray := by
        apply Array.ext'
        rw [Array.toList_map]
      simp only [Instr.makeFunc]
      rw [hce]
      simp
    · simp at h
  · -- makeSlice
    rename_i t l c
    have hl := hev l
    have hc := hev c
    split at h
    · rename_i u k1 n k2 m hk hl' hc'
      rw [hl'] at hl
      rw [hc'] at hc
      simp only [SV.rep] at hl hc
      split at h
      · rename_i k hek hs
        split at h
        · rename_i hb
          simp only [Option.some.injEq] at h
          subst h
          dsimp only
          rw [hl, hc]
          exact makeSlice_does hT H hk hek hs hb
        · simp at h
      · simp at h
    · simp at h
  · -- slice
    rename_i t x lo hi mx
    obtain ⟨v, h1, h2, h3⟩ := slice_ok (P := P) (vlo := lo.map a.eval) (vhi := hi.map a.eval) hT h (hev x)
      (fun c hc => by
        cases lo with
        | none => simp at hc
        | some q => simp only [Option.map_some, Option.some.injEq] at hc; subst hc; exact ⟨_, rfl, hev q⟩)
      (fun hc => by cases lo with | none => rfl | some q => simp at hc)
      (fun c hc => by
        cases hi with
        | none => simp at hc
        | some q => simp only [Option.map_some, Option.some.injEq] at hc; subst hc; exact ⟨_, rfl, hev q⟩)
      (fun hc => by cases hi with | none => rfl | some q => simp at hc)
      (vmx := mx.map a.eval) (fun c hc => by
        cases mx with
        | none => simp at hc
        | some q => simp only [Option.map_some, Option.some.injEq] at hc; subst hc; exact ⟨_, rfl, hev q⟩)
      (fun hc => by cases mx with | none => rfl | some q => simp at hc)
    exact does_val H h1 h2 h3
  · -- fieldAddr
    rename_i t x f
    have hx := hev x
    split at h
    · rename_i u o hh i hf he
      rw [he] at hx
      split at h
      · rename_i ro cs ho
        simp only [Option.some.injEq] at h
        subst h
        obtain ⟨v, h1, h2⟩ := fieldAddr_ok (P := P) (c' := .ptr hh (i + o)) hT hf hx (.inl ⟨_, _, rfl, rfl⟩) (.inl ⟨_, _, rfl, _, _, ho⟩)
        exact does_val H h1 rfl h2
      · simp at h
    · rename_i u o hh i j hf he
      rw [he] at hx
      split at h
      · rename_i ro k l ho
        simp only [Option.some.injEq] at h
        subst h
        obtain ⟨v, h1, h2⟩ := fieldAddr_ok (P := P) (c' := .pel hh i (j + o)) hT hf hx (.inr ⟨_, _, _, rfl, rfl⟩) (.inr ⟨_, _, _, rfl, _, _, _, ho⟩)
        exact does_val H h1 rfl h2
      · simp at h
    · simp at h
  · -- field
    rename_i t x f
    have hx := hev x
    split at h
    · rename_i u o cs hf he
      rw [he] at hx
      obtain ⟨vs, hv, hr⟩ := hx
      obtain ⟨fs, fd, hfs, hfd, q1, q2, hty, q3⟩ := fieldOff_ok hT hf
      have hpart : ∀ c : SV, (if (ty u).isAgg = true then (if o + (ty u).size ≤ cs.length then some (SV.agg ((cs.drop o).take (ty u).size)) else none) else cs[o]?) = some c → e = ⟨c, [], []⟩ →
          Does P w0 W0 objs φ seen w e (do pure (.value (← Instr.field t (a.eval x) f)) : Sem Next) := by
        intro c hc he
        subst he
        obtain ⟨v, h1, h2⟩ := part_ok (P := P) (w := w) hty hr hc
        refine does_val H (v := v) ?_ rfl h2
        simp only [Instr.field, Sem.run_bind, run_underlying hfs, Result.andThen_ok, hfd, hv, asAgg, Sem.run_pure, q1, q2, h1]
      split at h
      · rename_i hag
        split at h
        · rename_i hle
          simp only [Option.some.injEq] at h
          subst h
          exact hpart _ (by rw [if_pos hag, if_pos (Nat.le_of_ble_eq_true hle)]) rfl
        · simp at h
      · rename_i hag
        split at h
        · rename_i v hv'
          simp only [Option.some.injEq] at h
          subst h
          exact hpart _ (by rw [if_neg (by simp [hag])]; exact hv') rfl
        · simp at h
    · simp at h
  · -- indexAddr
    obtain ⟨v, h1, h2, h3⟩ := indexAddr_ok (P := P) hT H h (hev _) (hev _)
    exact does_val H h1 h2 h3
  · -- index
    rename_i t x i
    have hx := hev x
    have hi := hev i
    split at h
    · rename_i s k n hk he hie
      rw [he] at hx
      rw [hie] at hi
      simp only [SV.rep] at hx hi
      split at h
      · rename_i hb
        simp only [Option.some.injEq] at h
        subst h
        refine does_val H (v := .int .u8 (bAt s n.toNat)) ?_ rfl rfl
        have hn : n.toNat < s.size := by omega
        have hs : s[n.toNat]? = some s[n.toNat] := by
          rw [getElem?_pos]
        simp only [Instr.index, hx, hi, Sem.run_bind, asIntOf_int, Result.andThen_ok, run_underlying (ty_str hT hk), hb.1, if_true, hs, Sem.run_pure]
        congr 2
        simp only [bAt]
        have : s.toList.getD n.toNat 0 = s[n.toNat] := by
          rw [ByteArray.toList_eq]
          simp [List.getD, hn]
          rfl
        rw [this]
      · simp at h
    · rename_i m u cs k n hk he hie
      rw [he] at hx
      rw [hie] at hi
      obtain ⟨vs, hv, hr⟩ := hx
      simp only [SV.rep] at hi
      split at h
      · rename_i hb
        simp only [Bool.and_eq_true, Bool.not_eq_true'] at hb
        obtain ⟨hb, hku⟩ := hb
        have hb1 := Nat.eq_of_beq_eq_true hb.1
        split at h
        · rename_i hb3
          split at h
          · rename_i c hc
            simp only [Option.some.injEq] at h
            subst h
            have hty : TyAt P u (ty u) := ty_known hT hku
            obtain ⟨v, h1, h2⟩ := part_ok (P := P) (w := w) (o := n.toNat * (ty u).size) hty hr (by rw [if_neg (by simp [hb.2]), hb1, Nat.mul_one]; exact hc)
            refine does_val H (v := v) ?_ rfl h2
            simp only [Instr.index, hv, hi, Sem.run_bind, asIntOf_int, Result.andThen_ok, run_underlying (ty_arr hT hk), hb3.1, hb3.2, and_self, if_true, sizeOf_ty hty, h1]
          · simp at h
        · simp at h
      · simp at h
    · rename_i m u q l k n hk he hie
      rw [he] at hx
      rw [hie] at hi
      obtain ⟨hlq, hv⟩ := hx
      simp only [SV.rep] at hi
      split at h
      · rename_i hb1 hag
        simp only [Bool.and_eq_true] at hb1
        have hty : TyAt P u (ty u) := ty_known hT hb1.1
        have hle := Nat.le_of_ble_eq_true hb1.2
        split at h
        · rename_i hb3
          simp only [Option.some.injEq] at h
          subst h
          have hmul : (n.toNat + 1) * (ty u).size ≤ m * (ty u).size := Nat.mul_le_mul_right _ (by omega)
          rw [Nat.succ_mul] at hmul
          have hlen : ((l.drop (n.toNat * (ty u).size)).take (ty u).size).length = (ty u).size := by simp; omega
          have hp : (part u (l.map (Value.int .i64)).toArray (n.toNat * (ty u).size)).run P w = .ok (.agg (((l.drop (n.toNat * (ty u).size)).take (ty u).size).map (Value.int .i64)).toArray) w := by
            simp only [part, Sem.run_bind, isAgg_ty hty, hag, Result.andThen_ok, if_true, sizeOf_ty hty, Sem.run_pure]
            congr 2
            apply Array.ext'
            simp [List.map_take, List.map_drop]
          refine does_val H (v := .agg (((l.drop (n.toNat * (ty u).size)).take (ty u).size).map (Value.int .i64)).toArray) ?_ rfl ⟨hlen, rfl⟩
          simp only [Instr.index, hv, hi, Sem.run_bind, asIntOf_int, Result.andThen_ok, run_underlying (ty_arr hT hk), hb3.1, hb3.2, and_self, if_true, sizeOf_ty hty, hp]
        · simp at h
      · rename_i hb1 hag hs1
        simp only [Bool.and_eq_true] at hb1
        have hty : TyAt P u (ty u) := ty_known hT hb1.1
        have hle := Nat.le_of_ble_eq_true hb1.2
        have hs1 := Nat.eq_of_beq_eq_true hs1
        split at h
        · rename_i hb3
          simp only [Option.some.injEq] at h
          subst h
          rw [hs1, Nat.mul_one] at hle
          have hx : l[n.toNat]? = some (l.getD n.toNat 0) := by
            rw [List.getD_eq_getElem?_getD, List.getElem?_eq_getElem (by omega)]
            simp
          have hp : (part u (l.map (Value.int .i64)).toArray (n.toNat * (ty u).size)).run P w = .ok (.int .i64 (l.getD n.toNat 0)) w := by
            have hx2 : (l.map (Value.int .i64)).toArray[n.toNat * (ty u).size]? = some (.int .i64 (l.getD n.toNat 0)) := by
              rw [hs1, Nat.mul_one, List.getElem?_toArray, List.getElem?_map, hx]
              rfl
            simp only [part, Sem.run_bind, isAgg_ty hty, hag, Result.andThen_ok, Bool.false_eq_true, if_false, hx2, Sem.run_pure]
          refine does_val H (v := .int .i64 (l.getD n.toNat 0)) ?_ rfl rfl
          simp only [Instr.index, hv, hi, Sem.run_bind, asIntOf_int, Result.andThen_ok, run_underlying (ty_arr hT hk), hb3.1, hb3.2, and_self, if_true, sizeOf_ty hty, hp]
        · simp at h
      · simp at h
    · simp at h
  · -- extract
    rename_i x i
    have hx := hev x
    split at h
    · rename_i vs hv
      rw [hv] at hx
      obtain ⟨us, hu, hr⟩ := hx
      split at h
      · rename_i c hc
        simp only [Option.some.injEq] at h
        subst h
        obtain ⟨v, h1, h2⟩ := repL_get hr i c hc
        refine does_val H (v := v) ?_ rfl h2
        simp [Instr.extract, hu, h1]
      · simp at h
    · simp at h
  · -- call
    rename_i c
    split at h
    · rename_i b hb
      exact builtin_does hT H hev hb h
    · rename_i f hf
      exact absurd hf (hnc c f rfl)
    · simp at h
  · simp at h

end
end Go.Fx

/- The reflective executor, part 24: how a law's arguments are read. -/
import Derived.Test.YtkledlpiilcagaaFw23
import Derived.ChangeArms
import Derived.WideShapes
import Derived.Carry
import Derived.OpenShut
import Derived.ChangeOld
import Derived.ProofKit
set_option linter.unusedVariables false
set_option linter.unusedSimpArgs false
set_option autoImplicit false
namespace Go.Fx
open Go Go.RowKit Go.WideShapes Go.ChangeShapes Go.ChangeAt

def WfE : (e : EK) → e.den → Prop
  | .int k, x => (Lit.int k x).wf = true
  | .bool, _ => True
  | .str, s => ByteArray.size s ≤ maxLen
  | .p2, x => (Lit.int .i64 x.1).wf = true ∧ (Lit.int .i64 x.2).wf = true
  | .t3, x => (Lit.int .i64 x.1).wf = true ∧ (Lit.int .i64 x.2.1).wf = true ∧ (Lit.int .i64 x.2.2).wf = true
def WfB : (b : BK) → b.den → Prop
  | .int k, x => (Lit.int k x).wf = true
  | .str, s => ByteArray.size s ≤ maxLen
  | .row e _, l => List.length l ≤ maxLen ∧ ∀ x ∈ (l : List e.den), WfE e x
  | _, _ => True
def WfBs : (bs : List BK) → denB bs → Prop
  | [], _ => True
  | b :: bs, x => WfB b x.1 ∧ WfBs bs x.2
def WfK : (k : KD) → k.den → Prop
  | .one b, x => WfB b x
  | .agg bs, x => WfBs bs x
  | _, _ => True
def WfL : (ks : List KD) → denL ks → Prop
  | [], _ => True
  | k :: ks, x => WfK k x.1 ∧ WfL ks x.2

def i64At (ty : Ty) (u : Nat) : Bool := (match (ty u).kind with | .int .i64 => true | _ => false) && Nat.beq (ty u).size 1
/-- An element's type. -/
def ekTy (ty : Ty) (u : Nat) : EK → Bool
  | .int k => match (ty u).kind with | .int k' => decide (k' = k) | _ => false
  | .bool => match (ty u).kind with | .bool => true | _ => false
  | .str => match (ty u).kind with | .str => true | _ => false
  | .p2 => match (ty u).kind with
    | .arr 2 v => i64At ty v && Nat.beq (ty u).size 2
    | .struct [(a, 0), (b, 1)] => i64At ty a && i64At ty b && Nat.beq (ty u).size 2
    | _ => false
  | .t3 => match (ty u).kind with
    | .arr 3 v => i64At ty v && Nat.beq (ty u).size 3
    | _ => false
def bkTy (ty : Ty) (t : Nat) : BK → Bool
  | .int k => match (ty t).kind with | .int k' => decide (k' = k) | _ => false
  | .bool => match (ty t).kind with | .bool => true | _ => false
  | .str => match (ty t).kind with | .str => true | _ => false
  | .row e own => !own && (match (ty t).kind with | .slice u => decide ((ty u).ek = some e) && ekTy ty u e | _ => false)
  | _ => false
def fieldsTy (ty : Ty) : List (Nat × Nat) → List BK → Nat → Bool
  | [], [], _ => true
  | (t, o) :: fs, b :: bs, i => Nat.beq o i && Nat.beq (ty t).size 1 && bkTy ty t b && fieldsTy ty fs bs (i + 1)
  | _, _, _ => false
def kdTy (ty : Ty) (t : Nat) : KD → Bool
  | .one b => bkTy ty t b
  | .agg bs => match (ty t).kind with
    | .struct fs => fieldsTy ty fs bs 0 && Nat.beq (ty t).size bs.length
    | .arr n u => i64At ty u && Nat.beq bs.length n && bs.all (fun b => match b with | .int .i64 => true | _ => false) && Nat.beq (ty t).size n
    | _ => false
  | _ => false
def kdTys (ty : Ty) : List Nat → List KD → Bool
  | [], [] => true
  | t :: ts, k :: ks => kdTy ty t k && kdTys ty ts ks
  | _, _ => false

section
variable {H : Type} {enc : TypeId × Value → H} {P : Program} {w : World} {base : Nat} {held : Bool} {ty : Ty} {sp : Nat → Bool}

theorem cells_ty (hT : TyOk P ty) {t : Nat} (hk : (ty t).kind ≠ .other ∨ (ty t).ek ≠ none) : P.cellsOf t = (ty t).size := by
  rcases hT t with h | h
  · rcases hk with h1 | h1
    · exact absurd h.1 h1
    · exact absurd h.2 h1
  · obtain ⟨d, i, z, _, h2, _, h4, _⟩ := h.ok
    rw [cellsOf_eq h2, h4]
theorem ek_cells (hT : TyOk P ty) {t : Nat} {e : EK} (hk : (ty t).ek = some e) : P.cellsOf t = e.sz := by
  rcases hT t with h | h
  · rw [h.2] at hk; cases hk
  · obtain ⟨d, i, z, _, h2, _, h4, _, _, _, _, h8⟩ := h.ok
    rw [cellsOf_eq h2, h4, (h8 e hk).1]

theorem i64At_spec (hT : TyOk P ty) {u : Nat} (h : i64At ty u = true) : P.underlying u = some (.int .i64) ∧ P.cellsOf u = 1 := by
  simp only [i64At, Bool.and_eq_true] at h
  obtain ⟨h1, h2⟩ := h
  split at h1
  · rename_i hk
    exact ⟨ty_int hT hk, by rw [cells_ty hT (.inl (by rw [hk]; simp))]; exact Nat.eq_of_beq_eq_true h2⟩
  · cases h1

theorem trod_array {t e n fuel : Nat} {cs : List Value} {x : DataW H × List MemPlace} (ht : P.underlying t = some (.array n e)) (h : DataW.trod enc P w base sp held fuel t cs = some x) :
    ∃ (xs : List (DataW H × List MemPlace)) (m : Nat), cs.length = P.cellsOf t ∧ xs.length = n ∧ ∀ i, i < n → DataW.trod enc P w base sp held m e ((cs.drop (i * P.cellsOf e)).take (P.cellsOf e)) = xs[i]? := by
  cases fuel with
  | zero => simp [DataW.trod] at h
  | succ m =>
    unfold DataW.trod at h
    rw [ht] at h
    split at h <;> simp_all
    obtain ⟨hl, xs, hp, hd⟩ := h
    exact ⟨xs, by simpa using mapM_some_length hp, m, fun i hi => mapM_some_get hp i i (by simp [hi])⟩

theorem int_cell {u fuel : Nat} {c : List Value} {x : Option (DataW H × List MemPlace)} (hu : P.underlying u = some (.int .i64)) (hx : x.isSome = true) (h : DataW.trod enc P w base sp held fuel u c = x) :
    ∃ n, c = [.int .i64 n] ∧ (Lit.int .i64 n).wf = true := by
  cases x with
  | none => simp at hx
  | some x =>
    obtain ⟨n, h1, _, h2⟩ := DataW.trod_int hu h
    exact ⟨n, h1, h2⟩

theorem read_E (hT : TyOk P ty) {u : Nat} {e : EK} (he : ekTy ty u e = true) {fuel : Nat} {cs : List Value} {z : DataW H × List MemPlace} (h : DataW.trod enc P w base sp held fuel u cs = some z) : ∃ x : e.den, cs = e.enc x ∧ WfE e x := by
  cases e with
  | int k =>
    simp only [ekTy] at he
    split at he
    · rename_i k' hk
      have : k' = k := by simpa using he
      subst this
      obtain ⟨n, h1, _, h2⟩ := DataW.trod_int (ty_int hT hk) h
      exact ⟨n, h1, h2⟩
    · cases he
  | bool =>
    simp only [ekTy] at he
    split at he
    · rename_i hk
      obtain ⟨n, h1, _⟩ := DataW.trod_bool (ty_bool hT hk) h
      exact ⟨n, h1, trivial⟩
    · cases he
  | str =>
    simp only [ekTy] at he
    split at he
    · rename_i hk
      obtain ⟨n, h1, _, h2⟩ := DataW.trod_string (ty_str hT hk) h
      exact ⟨n, h1, h2⟩
    · cases he
  | p2 =>
    simp only [ekTy] at he
    split at he
    · rename_i v hk
      simp only [Bool.and_eq_true] at he
      obtain ⟨hv, hs⟩ := he
      obtain ⟨hv1, hv2⟩ := i64At_spec hT hv
      obtain ⟨xs, m, hl, hx, hi⟩ := trod_array (ty_arr hT hk) h
      rw [cells_ty hT (.inl (by rw [hk]; simp)), Nat.eq_of_beq_eq_true hs] at hl
      match cs, hl with
      | [c0, c1], _ =>
        have h0 := hi 0 (by omega)
        have h1 := hi 1 (by omega)
        simp only [hv2, Nat.zero_mul, Nat.one_mul, List.drop_zero, List.drop_succ_cons, List.take_succ_cons, List.take_zero] at h0 h1
        obtain ⟨a, ha, wa⟩ := int_cell hv1 (by simp [hx]) h0
        obtain ⟨b, hb, wb⟩ := int_cell hv1 (by simp [hx]) h1
        simp at ha hb
        exact ⟨(a, b), by simp [EK.enc, ha, hb], wa, wb⟩
    · rename_i a b hk
      simp only [Bool.and_eq_true] at he
      obtain ⟨⟨ha, hb⟩, hs⟩ := he
      obtain ⟨ha1, ha2⟩ := i64At_spec hT ha
      obtain ⟨hb1, hb2⟩ := i64At_spec hT hb
      obtain ⟨fs, hf, hfs⟩ := ty_struct hT hk
      obtain ⟨xs, m, _, _, hl, hx, hi⟩ := DataW.trod_struct hf h
      rw [cells_ty hT (.inl (by rw [hk]; simp)), Nat.eq_of_beq_eq_true hs] at hl
      have hfl : fs.toList.length = 2 := by simpa using congrArg List.length hfs
      obtain ⟨f0, f1, hff⟩ : ∃ f0 f1, fs.toList = [f0, f1] := by
        match hq : fs.toList, hfl with
        | [f0, f1], _ => exact ⟨f0, f1, rfl⟩
      rw [hff] at hfs
      simp only [List.map_cons, List.map_nil, List.cons.injEq, Prod.mk.injEq, and_true] at hfs
      obtain ⟨⟨e1, e2⟩, e3, e4⟩ := hfs
      have g0 : fs[0]? = some f0 := by rw [← Array.getElem?_toList, hff]; rfl
      have g1 : fs[1]? = some f1 := by rw [← Array.getElem?_toList, hff]; rfl
      have hxl : xs.length = 2 := by rw [hx]; simpa using hfl
      match cs, hl with
      | [c0, c1], _ =>
        have h0 := hi 0 f0 g0
        have h1 := hi 1 f1 g1
        rw [e1, e2, ha2] at h0
        rw [e3, e4, hb2] at h1
        simp only [List.drop_zero, List.drop_succ_cons, List.take_succ_cons, List.take_zero] at h0 h1
        obtain ⟨a, ha, wa⟩ := int_cell ha1 (by simp [hxl]) h0
        obtain ⟨b, hb, wb⟩ := int_cell hb1 (by simp [hxl]) h1
        simp at ha hb
        exact ⟨(a, b), by simp [EK.enc, ha, hb], wa, wb⟩
    · cases he
  | t3 =>
    simp only [ekTy] at he
    split at he
    · rename_i v hk
      simp only [Bool.and_eq_true] at he
      obtain ⟨hv, hs⟩ := he
      obtain ⟨hv1, hv2⟩ := i64At_spec hT hv
      obtain ⟨xs, m, hl, hx, hi⟩ := trod_array (ty_arr hT hk) h
      rw [cells_ty hT (.inl (by rw [hk]; simp)), Nat.eq_of_beq_eq_true hs] at hl
      match cs, hl with
      | [c0, c1, c2], _ =>
        have h0 := hi 0 (by omega)
        have h1 := hi 1 (by omega)
        have h2 := hi 2 (by omega)
        simp only [hv2, Nat.zero_mul, Nat.one_mul, Nat.mul_one, List.drop_zero, List.drop_succ_cons, List.take_succ_cons, List.take_zero] at h0 h1 h2
        obtain ⟨a, ha, wa⟩ := int_cell hv1 (by simp [hx]) h0
        obtain ⟨b, hb, wb⟩ := int_cell hv1 (by simp [hx]) h1
        obtain ⟨c, hc, wc⟩ := int_cell hv1 (by simp [hx]) h2
        simp at ha hb hc
        exact ⟨(a, b, c), by simp [EK.enc, ha, hb, hc], wa, wb, wc⟩
    · cases he

theorem cell_some {a : Addr} {v : Value} (h : w.cell? a = some v) : a.spot = none ∧ a.block < w.heap.size := by
  unfold World.cell? at h
  split at h
  · rename_i c _ _ hb
    refine ⟨?_, (Array.getElem?_eq_some_iff.1 hb).1⟩
    split at h
    · cases h
    · rename_i hs
      simpa using hs
  · cases h

theorem read_row (hT : TyOk P ty) {t u : Nat} {e : EK} (hk : (ty t).kind = .slice u) (hek : (ty u).ek = some e) (he : ekTy ty u e = true) {fuel : Nat} {cs : List Value} {z : DataW H × List MemPlace}
    (h : DataW.trod enc P w 0 (fun _ => true) held fuel t cs = some z) : ∃ (l : List e.den) (v : Value), cs = [v] ∧ RB w (.row e false) l v ∧ WfB (.row e false) l := by
  have hsz := ek_cells hT hek
  rcases DataW.trod_slice (ty_slice hT hk) h with ⟨rfl, _⟩ | ⟨a, len, cap, elems, rest, n, _, rfl, _, _, hl, hm, hlen, hel, hsp, _⟩
  · exact ⟨[], _, rfl, ⟨rfl, none, 0, rfl, Nat.le_refl _, Nat.zero_le _, .inl rfl⟩, Nat.zero_le _, by simp⟩
  · rw [hsz] at hel hsp
    have each : ∀ i, i < len → ∃ x : e.den, w.cells? 0 (a.add (i * e.sz)) e.sz = some (e.enc x) ∧ WfE e x := by
      intro i hi
      have h1 := hel i hi
      have h2 : elems[i]? = some elems[i] := List.getElem?_eq_getElem (by omega)
      rw [h2] at h1
      cases hc : w.cells? 0 (a.add (i * e.sz)) e.sz with
      | none => rw [hc] at h1; simp at h1
      | some c =>
        rw [hc, Option.bind_some] at h1
        obtain ⟨x, hx, wx⟩ := read_E hT he h1
        exact ⟨x, by rw [hx], wx⟩
    have build : ∀ m, m ≤ len → ∃ l : List e.den, l.length = m ∧ (∀ i, i < m → w.cells? 0 (a.add (i * e.sz)) e.sz = some (e.enc (l.getD i e.dflt))) ∧ ∀ x ∈ l, WfE e x := by
      intro m
      induction m with
      | zero => exact fun _ => ⟨[], rfl, fun i hi => by omega, by simp⟩
      | succ m ih =>
        intro hm
        obtain ⟨l, h1, h2, h3⟩ := ih (by omega)
        obtain ⟨x, h4, h5⟩ := each m (by omega)
        refine ⟨l ++ [x], by simp [h1], fun i hi => ?_, fun y hy => ?_⟩
        · by_cases c : i = m
          · subst c
            rw [h4]
            simp [← h1]
          · have := h2 i (by omega)
            rw [this]
            simp [List.getElem?_append_left (show i < l.length by omega)]
        · rcases List.mem_append.1 hy with hy | hy
          · exact h3 y hy
          · simp at hy; subst hy; exact h5
    obtain ⟨l, h1, h2, h3⟩ := build len (Nat.le_refl _)
    have getc : ∀ {b : Addr} {n : Nat} {c : List Value}, w.cells? 0 b n = some c → ∀ j, j < n → w.cell? (b.add j) = c[j]? := by
      intro b n c hc j hj
      unfold World.cells? at hc
      rw [if_pos (Nat.zero_le _)] at hc
      exact mapM_some_get hc j j (by simp [hj])
    refine ⟨l, _, rfl, ⟨rfl, some a, cap, by rw [h1], by rw [h1]; exact hl, hm, ?_⟩, by rw [h1]; exact Nat.le_trans hl hm, h3⟩
    rcases Nat.eq_zero_or_pos cap with hc0 | hcp
    · exact .inl hc0
    · right
      have first : ∃ v, w.cell? a = some v := by
        have hadd : (a.add (0 * e.sz)).add 0 = a := by simp [Addr.add]
        rcases Nat.eq_zero_or_pos len with hl0 | hlp
        · obtain ⟨r1, r2⟩ := hsp rfl
          have h4 := r2 0 (by omega)
          obtain ⟨q0, h5⟩ : ∃ q0, rest[0]? = some q0 := ⟨_, List.getElem?_eq_getElem (by omega)⟩
          rw [h5, hl0] at h4
          cases hc : w.cells? 0 (a.add ((0 + 0) * e.sz)) e.sz with
          | none => rw [hc] at h4; simp at h4
          | some c =>
            rw [hc, Option.bind_some] at h4
            obtain ⟨x, hx, _⟩ := read_E hT he h4
            have h6 := getc hc 0 (sz_pos e)
            rw [hx] at h6
            rw [show (0 + 0) * e.sz = 0 * e.sz by simp, hadd] at h6
            have : 0 < (e.enc x).length := by rw [enc_length]; exact sz_pos e
            exact ⟨_, h6.trans (List.getElem?_eq_getElem this)⟩
        · have hc := h2 0 hlp
          have h6 := getc hc 0 (sz_pos e)
          rw [hadd] at h6
          have : 0 < (e.enc (l.getD 0 e.dflt)).length := by rw [enc_length]; exact sz_pos e
          exact ⟨_, h6.trans (List.getElem?_eq_getElem this)⟩
      obtain ⟨v0, hv0⟩ := first
      obtain ⟨hs, hb⟩ := cell_some hv0
      obtain ⟨ab, ao, as⟩ := a
      simp only at hs hb
      subst hs
      refine ⟨ab, ao, rfl, hb, fun k v hv => ?_⟩
      have hk : k < len * e.sz := by
        have := (List.getElem?_eq_some_iff.1 hv).1
        rw [encAll_length, h1] at this
        exact this
      have hpos := sz_pos e
      have hi : k / e.sz < len := Nat.div_lt_of_lt_mul (by rw [Nat.mul_comm]; exact hk)
      have hj : k % e.sz < e.sz := Nat.mod_lt _ hpos
      have hkk : k / e.sz * e.sz + k % e.sz = k := by rw [Nat.mul_comm]; exact Nat.div_add_mod k e.sz
      have h6 := getc (h2 (k / e.sz) hi) (k % e.sz) hj
      rw [add_spot, add_spot, Nat.add_assoc, hkk] at h6
      have h7 := encAll_get e l (k / e.sz) (k % e.sz) (by rw [h1]; exact hi) hj
      rw [hkk, hv] at h7
      rw [h6, ← h7]

theorem read_B (hT : TyOk P ty) {t : Nat} {b : BK} (hb : bkTy ty t b = true) {fuel : Nat} {cs : List Value} {z : DataW H × List MemPlace}
    (h : DataW.trod enc P w 0 (fun _ => true) held fuel t cs = some z) : ∃ (x : b.den) (v : Value), cs = [v] ∧ RB w b x v ∧ WfB b x := by
  cases b with
  | int k =>
    simp only [bkTy] at hb
    split at hb
    · rename_i k' hk
      have : k' = k := by simpa using hb
      subst this
      obtain ⟨n, h1, _, h2⟩ := DataW.trod_int (ty_int hT hk) h
      exact ⟨n, _, h1, rfl, h2⟩
    · cases hb
  | bool =>
    simp only [bkTy] at hb
    split at hb
    · rename_i hk
      obtain ⟨n, h1, _⟩ := DataW.trod_bool (ty_bool hT hk) h
      exact ⟨n, _, h1, rfl, trivial⟩
    · cases hb
  | str =>
    simp only [bkTy] at hb
    split at hb
    · rename_i hk
      obtain ⟨n, h1, _, h2⟩ := DataW.trod_string (ty_str hT hk) h
      exact ⟨n, _, h1, rfl, h2⟩
    · cases hb
  | row e own =>
    simp only [bkTy, Bool.and_eq_true, Bool.not_eq_true'] at hb
    obtain ⟨rfl, hb⟩ := hb
    split at hb
    · rename_i u hk
      simp only [Bool.and_eq_true, decide_eq_true_eq] at hb
      exact read_row hT hk hb.1 hb.2 h
    · cases hb
  | ref i => cases hb
  | part i => cases hb
  | lit c => cases hb

theorem read_fields (hT : TyOk P ty) {cs : List Value} : ∀ (fs : List (Nat × Nat)) (bs : List BK) (k : Nat), fieldsTy ty fs bs k = true → cs.length = k + bs.length →
    (∀ (i t o : Nat), fs[i]? = some (t, o) → ∃ fuel z, DataW.trod enc P w 0 (fun _ => true) held fuel t ((cs.drop o).take (P.cellsOf t)) = some z) → ∃ x : denB bs, RBs w bs x (cs.drop k) ∧ WfBs bs x
  | [], [], k, h, hl, hf => ⟨(), by simp only [RBs]; simp at hl; simp [hl], trivial⟩
  | [], b :: bs, k, h, hl, hf => by simp [fieldsTy] at h
  | (t, o) :: fs, [], k, h, hl, hf => by simp [fieldsTy] at h
  | (t, o) :: fs, b :: bs, k, h, hl, hf => by
    simp only [fieldsTy, Bool.and_eq_true] at h
    obtain ⟨⟨⟨h1, h2⟩, h3⟩, h4⟩ := h
    have ho := Nat.eq_of_beq_eq_true h1
    subst ho
    have hkn : (ty t).kind ≠ .other := by
      intro hq
      cases b <;> simp [bkTy, hq] at h3
    have hc : P.cellsOf t = 1 := by rw [cells_ty hT (.inl hkn)]; exact Nat.eq_of_beq_eq_true h2
    obtain ⟨fuel, z, hz⟩ := hf 0 t o rfl
    obtain ⟨x, v, hv, hr, hw⟩ := read_B hT h3 hz
    obtain ⟨xs, hrs, hws⟩ := read_fields hT fs bs (o + 1) h4 (by simp at hl; omega) (fun i t' o' hi => hf (i + 1) t' o' (by simpa using hi))
    refine ⟨(x, xs), ⟨v, cs.drop (o + 1), ?_, hr, hrs⟩, hw, hws⟩
    rw [hc] at hv
    have hlt : o < cs.length := by simp at hl; omega
    rw [List.drop_eq_getElem_cons hlt] at hv ⊢
    simp only [List.take_succ_cons, List.take_zero, List.cons.injEq, and_true] at hv
    rw [hv]

theorem read_ints {cs : List Value} : ∀ (bs : List BK) (k : Nat), bs.all (fun b => match b with | .int .i64 => true | _ => false) = true → cs.length = k + bs.length →
    (∀ i, k ≤ i → i < cs.length → ∃ n, (cs.drop i).take 1 = [Value.int .i64 n] ∧ (Lit.int .i64 n).wf = true) → ∃ x : denB bs, RBs w bs x (cs.drop k) ∧ WfBs bs x
  | [], k, h, hl, hf => ⟨(), by simp only [RBs]; simp at hl; simp [hl], trivial⟩
  | b :: bs, k, h, hl, hf => by
    simp only [List.all_cons, Bool.and_eq_true] at h
    obtain ⟨h1, h2⟩ := h
    have hb : b = .int .i64 := by
      split at h1
      · rfl
      · cases h1
    subst hb
    simp at hl
    obtain ⟨n, hn, hw⟩ := hf k (Nat.le_refl _) (by omega)
    obtain ⟨xs, hrs, hws⟩ := read_ints bs (k + 1) h2 (by omega) (fun i hi hi2 => hf i (by omega) hi2)
    refine ⟨(n, xs), ⟨.int .i64 n, cs.drop (k + 1), ?_, rfl, hrs⟩, hw, hws⟩
    have hlt : k < cs.length := by omega
    rw [List.drop_eq_getElem_cons hlt] at hn ⊢
    simp only [List.take_succ_cons, List.take_zero, List.cons.injEq, and_true] at hn
    rw [hn]

theorem okWide_array {n e t : Nat} {r : Reach} {b0 : Nat} {v : Value} (ht : P.underlying t = some (.array n e)) (h : Value.okWide P w r b0 t v) : ∃ cs, v = .agg cs ∧ cs.size = P.cellsOf t := by
  simp only [Value.okWide, ht] at h
  obtain ⟨cs, h1, h2, _⟩ := h
  exact ⟨cs, h1, h2⟩

theorem okWide_one {t : Nat} {r : Reach} {b0 : Nat} {v u : Value} (hT : TyOk P ty) {b : BK} (hb : bkTy ty t b = true) (h : Value.okWide P w r b0 t v) (hc : v.cells.toList = [u]) : v = u := by
  have one : v.oneCell' = true → v = u := by
    intro ho
    have : v.cells = #[v] := by cases v <;> simp [Value.oneCell'] at ho <;> rfl
    rw [this] at hc
    simpa using hc
  cases b with
  | int k =>
    simp only [bkTy] at hb
    split at hb
    · rename_i hk
      obtain ⟨n, rfl⟩ := okWide_int (ty_int hT hk) h
      exact one rfl
    · cases hb
  | bool =>
    simp only [bkTy] at hb
    split at hb
    · rename_i hk
      obtain ⟨n, rfl⟩ := okWide_bool (ty_bool hT hk) h
      exact one rfl
    · cases hb
  | str =>
    simp only [bkTy] at hb
    split at hb
    · rename_i hk
      obtain ⟨n, rfl⟩ := okWide_string (ty_str hT hk) h
      exact one rfl
    · cases hb
  | row e own =>
    simp only [bkTy, Bool.and_eq_true] at hb
    obtain ⟨_, hb⟩ := hb
    split at hb
    · rename_i u hk
      obtain ⟨a, l, c, rfl⟩ := okWide_slice (ty_slice hT hk) h
      exact one rfl
    · cases hb
  | ref i => cases hb
  | part i => cases hb
  | lit c => cases hb

theorem read_K (hT : TyOk P ty) {t : Nat} {k : KD} (hk : kdTy ty t k = true) {r : Reach} {b0 : Nat} {v : Value} (hv : Value.okWide P w r b0 t v) {d : DataW H} {ps : List MemPlace}
    (h : DataW.Trod enc P w 0 (fun _ => true) held t v d ps) : ∃ x : k.den, RK w k x v ∧ WfK k x := by
  obtain ⟨fuel, hf⟩ := h
  cases k with
  | one b =>
    obtain ⟨x, u, hc, hr, hw⟩ := read_B hT hk hf
    have := okWide_one hT hk hv hc
    subst this
    exact ⟨x, hr, hw⟩
  | agg bs =>
    simp only [kdTy] at hk
    split at hk
    · rename_i fs hks
      simp only [Bool.and_eq_true] at hk
      obtain ⟨hk1, hk2⟩ := hk
      obtain ⟨fa, hfa, hfm⟩ := ty_struct hT hks
      obtain ⟨cs, rfl, hcs⟩ := okWide_struct hfa hv
      have hcl : cs.toList.length = bs.length := by
        rw [Array.length_toList, hcs, cells_ty hT (.inl (by rw [hks]; simp))]
        exact Nat.eq_of_beq_eq_true hk2
      obtain ⟨xs, m, _, _, _, hxl, hi⟩ := DataW.trod_struct hfa hf
      obtain ⟨x, hr, hw⟩ := read_fields (w := w) (enc := enc) (held := held) hT (cs := cs.toList) fs bs 0 hk1 (by omega) (fun i t' o' hio => by
        rw [← hfm, List.getElem?_map] at hio
        cases hq : fa.toList[i]? with
        | none => rw [hq] at hio; simp at hio
        | some f =>
          rw [hq] at hio
          simp only [Option.map_some, Option.some.injEq, Prod.mk.injEq] at hio
          obtain ⟨rfl, rfl⟩ := hio
          have hq' : fa[i]? = some f := by rw [← Array.getElem?_toList]; exact hq
          have h1 := hi i f hq'
          have hlt : i < xs.length := by
            rw [hxl]
            exact (Array.getElem?_eq_some_iff.1 hq').1
          refine ⟨m, xs[i], ?_⟩
          have h1' : DataW.trod enc P w 0 (fun _ => true) held m f.type ((cs.toList.drop f.offset).take (P.cellsOf f.type)) = xs[i]? := by simpa [Value.cells] using h1
          rw [h1', List.getElem?_eq_getElem hlt])
      exact ⟨x, ⟨cs.toList, by simp, by simpa using hr⟩, hw⟩
    · rename_i n u hks
      simp only [Bool.and_eq_true] at hk
      obtain ⟨⟨⟨hu, hn⟩, hall⟩, hs⟩ := hk
      obtain ⟨hu1, hu2⟩ := i64At_spec hT hu
      obtain ⟨cs, rfl, hcs⟩ := okWide_array (ty_arr hT hks) hv
      have hn' := Nat.eq_of_beq_eq_true hn
      have hcl : cs.toList.length = n := by
        rw [Array.length_toList, hcs, cells_ty hT (.inl (by rw [hks]; simp))]
        exact Nat.eq_of_beq_eq_true hs
      obtain ⟨xs, m, _, hxl, hi⟩ := trod_array (ty_arr hT hks) hf
      obtain ⟨x, hr, hw⟩ := read_ints (w := w) (cs := cs.toList) bs 0 hall (by omega) (fun i _ hlt => by
        have h1 := hi i (by omega)
        rw [hu2, Nat.mul_one] at h1
        have h1' : DataW.trod enc P w 0 (fun _ => true) held m u ((cs.toList.drop i).take 1) = xs[i]? := by simpa [Value.cells] using h1
        exact int_cell hu1 (by simp; omega) h1')
      exact ⟨x, ⟨cs.toList, by simp, by simpa using hr⟩, hw⟩
    · cases hk
  | _ => cases hk

theorem read_L (hT : TyOk P ty) {r : Reach} {b0 : Nat} : ∀ {ts : List Nat} {ks : List KD} {vs : List Value} {ds : List (DataW H)} {ps : List MemPlace}, kdTys ty ts ks = true → (∀ (j : Nat) (t : TypeId) (v : Value), ts[j]? = some t → vs[j]? = some v → Value.okWide P w r b0 t v) →
    DataW.TrodAll enc P w 0 (fun _ => true) held ts vs ds ps → ∃ x : denL ks, RL w ks x vs ∧ WfL ks x
  | [], [], vs, ds, ps, hk, hv, h => by
    obtain ⟨rfl, _, _⟩ := trodAll_nil h
    exact ⟨(), rfl, trivial⟩
  | [], k :: ks, vs, ds, ps, hk, hv, h => by simp [kdTys] at hk
  | t :: ts, [], vs, ds, ps, hk, hv, h => by simp [kdTys] at hk
  | t :: ts, k :: ks, vs, ds, ps, hk, hv, h => by
    simp only [kdTys, Bool.and_eq_true] at hk
    obtain ⟨v, vs', d, ds', p, q, rfl, rfl, rfl, h1, h2⟩ := trodAll_cons h
    obtain ⟨x, hr, hw⟩ := read_K hT hk.1 (hv 0 t v rfl rfl) h1
    obtain ⟨xs, hrs, hws⟩ := read_L hT hk.2 (fun j t' v' ht hv' => hv (j + 1) t' v' (by simpa using ht) (by simpa using hv')) h2
    exact ⟨(x, xs), ⟨v, vs', rfl, hr, hrs⟩, hw, hws⟩

/-- The arguments read as they did. -/
theorem trodAll_below (hl : laidOutB P = true) {W W' : World} (hb : Below W.heap.size W W') : ∀ {ts : List TypeId} {vs : List Value} {ds : List (DataW H)} {ps : List MemPlace}, ts.all (fun t => P.readableRec t && decide (t < P.types.size)) = true →
    DataW.TrodAll enc P W 0 (fun _ => true) true ts vs ds ps → DataW.TrodAll enc P W' 0 (fun b => decide (b < W.heap.size)) true ts vs ds ps
  | [], vs, ds, ps, ht, h => by
    obtain ⟨rfl, rfl, rfl⟩ := trodAll_nil h
    exact trodAll_mk0
  | t :: ts, vs, ds, ps, ht, h => by
    simp only [List.all_cons, Bool.and_eq_true, decide_eq_true_eq] at ht
    obtain ⟨v, vs', d, ds', p, q, rfl, rfl, rfl, h1, h2⟩ := trodAll_cons h
    have lt : ∀ x ∈ p, x.block < W.heap.size := by obtain ⟨m, hm⟩ := h1; exact DataW.trod_lt m _ _ _ hm
    exact trodAll_cons_mk (Below.trod hl ht.1.1 ht.1.2 h1 hb lt) (trodAll_below hl hb (by simpa using ht.2) h2)
end
end Go.Fx

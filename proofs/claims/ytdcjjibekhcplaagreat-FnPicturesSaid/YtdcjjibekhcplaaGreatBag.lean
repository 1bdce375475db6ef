/- Functions that draw a value out of a text of bytes: table rows. -/
import Derived.Test.YtdcjjibekhcplaaGreatBaf
namespace Go.Ax
open Go Go.Proofs

/-- A call that only reads the bytes leaves every memory that begins with them as it was. -/
theorem CallOK.read {P : Program} {f : FuncId} {args : List AV} {v : AV} {c : Cd} {H1 : List AB} (h : CallOK P f args [codeB c false] v H1) (hv : below 0 v = true) (ha : belowL 1 args = true) (Hr : List AB) :
    CallOK P f args (codeB c false :: Hr) v (codeB c false :: Hr) := fun σ w rargs s hra => by
  have hl : 0 < σ.length := by rw [s.len]; simp
  obtain ⟨x, hx⟩ : ∃ x, σ[0]? = some x := ⟨_, List.getElem?_eq_getElem hl⟩
  have e0 : Ext [x] σ := fun i b hb => by
    match i, hb with
    | 0, hb => cases hb; exact hx
    | i + 1, hb => simp at hb
  have s0 : Sim [x] [codeB c false] w := by
    refine ⟨rfl, fun i b z hb => ?_, fun i j b z z' hi hj hr _ => ?_⟩
    · match i, hb with
      | 0, hb =>
        cases hb
        exact low_blk e0 rfl (by rfl : lowB 1 (codeB c false) = true) (s.blk 0 b z hx)
      | i + 1, hb => simp at hb
    · match i, hi with
      | 0, _ => simp [getB, codeB, AB.rw] at hr
      | i + 1, hi => simp at hi
  refine (h [x] w rargs s0 (belowL_rel e0 rfl ha hra)).mono ?_
  rintro e w' ⟨rv, rfl, σ', r1, s1, f1⟩
  have hE : ∀ τ : List (Nat × Nat), Ext [] τ := fun τ i b hb => by simp at hb
  refine ⟨rv, rfl, σ, (below_rel (σ := []) (τ := σ') (hE _) rfl hv r1).mono (hE _), ?_⟩
  have f2 : Fr σ (roH (codeB c false :: Hr)) w σ (roH (codeB c false :: Hr)) w' := ⟨f1.os, f1.tape, f1.output, f1.size, fun b hb _ => f1.old b hb fun i z hr => by
      match i with
      | 0 => simp [getB, codeB, AB.rw] at hr
      | i + 1 => simp [getB, AB.rw] at hr, Ext.refl σ, fun i b z h h' => (by rw [h'] at h; cases h), fun i _ h => h⟩
  exact s.ro_back f2

/-- The ways of a result joined; what is asked is asked on all ways. -/
def flatR : Res → Option (AV × List Bool)
  | .ret v _ nd => match below 0 v with
    | true => some (v, nd)
    | false => none
  | .fail => none
  | .stop _ _ _ _ => none
  | .ite b x y => match flatR x, flatR y with
    | some (v, nd), some (v', nd') => match mergeV b v v' with
      | some z => some (z, nd ++ nd')
      | none => none
    | _, _ => none
theorem flatR_spec : ∀ {r : Res} {v : AV} {nd : List Bool}, flatR r = some (v, nd) → allT nd = true →
    ∃ v' H' nd', r.sel = .ret v' H' nd' ∧ allT nd' = true ∧ below 0 v' = true ∧ ∀ (σ : List (Nat × Nat)) (x : Value), Rel σ v' x → Rel σ v x
  | .ret v0 H0 nd0, v, nd, hj, hn => by
    simp only [flatR] at hj
    split at hj <;> cases hj
    rename_i hb
    exact ⟨_, H0, _, rfl, hn, hb, fun _ _ r => r⟩
  | .fail, v, nd, hj, hn => by simp [flatR] at hj
  | .stop _ _ _ _, v, nd, hj, hn => by simp [flatR] at hj
  | .ite b x y, v, nd, hj, hn => by
    simp only [flatR] at hj
    split at hj <;> (try (cases hj; done))
    rename_i v1 nd1 v2 nd2 e1 e2
    split at hj <;> cases hj
    rename_i hz
    rw [allT_append, Bool.and_eq_true] at hn
    cases b with
    | true =>
      obtain ⟨v', H', nd', g1, g2, g3, g4⟩ := flatR_spec e1 hn.1
      exact ⟨v', H', nd', g1, g2, g3, fun σ x r => mergeV_left hz (g4 σ x r)⟩
    | false =>
      obtain ⟨v', H', nd', g1, g2, g3, g4⟩ := flatR_spec e2 hn.2
      exact ⟨v', H', nd', g1, g2, g3, fun σ x r => mergeV_right hz (g4 σ x r)⟩

/-- What a drawing function must be: some value of a form, whatever memory is behind the bytes. -/
def DrawOK (P : Program) (f : FuncId) (c : Cd) (v : AV) : Prop := ∀ Hr, CallOK P f [.sl false 0 c.off c.len 0] (codeB c false :: Hr) v (codeB c false :: Hr)
def drawEx {α : Type} (F : Form α) (r : Res) : Option (α × List Bool) :=
  match flatR r with
  | some (v, nd) => match F.get v with
    | some x => some (x, nd)
    | none => none
  | none => none
theorem drawOK_of {α : Type} {F : Form α} {P : Program} {T : Table} {f : FuncId} {c : Cd} {x : α} {nd : List Bool} (hT : SoundT P T)
    (he : drawEx F (T f [.sl false 0 c.off c.len 0] [codeB c false] [] fun v H nd => .ret v H nd) = some (x, nd)) (hn : allT nd = true) : DrawOK P f c (F.val x) := fun Hr => by
  unfold drawEx at he
  split at he <;> (try (cases he; done))
  rename_i v nd1 hj
  split at he <;> cases he
  rename_i hx
  obtain ⟨v', H', nd', g1, g2, g3, g4⟩ := flatR_spec hj hn
  exact ((call_of_sel hT g1 g2).read g3 rfl Hr).weaken fun σ y r => F.rel hx σ y (g4 σ y r)
theorem drawOK_some {α : Type} {F : Form α} {P : Program} {T : Table} {f : FuncId} {c : Cd} {m : Nat} (hT : SoundT P T) (hc : goodB c = true)
    (hn : ((drawEx F (T f [.sl false 0 c.off c.len 0] [codeB c false] [] fun v H nd => .ret v H nd)).map fun r => r.2) = some (List.replicate m (okB c c.off c.len))) : ∃ x, DrawOK P f c (F.val x) := by
  cases hr : drawEx F (T f [.sl false 0 c.off c.len 0] [codeB c false] [] fun v H nd => .ret v H nd) with
  | none => rw [hr] at hn; cases hn
  | some r =>
    obtain ⟨x, nd⟩ := r
    rw [hr] at hn
    simp only [Option.map_some, Option.some.injEq] at hn
    refine ⟨x, drawOK_of hT hr ?_⟩
    have hok : okB c c.off c.len = true := by simp [okB, hc]
    rw [hn, hok]
    exact allT_rep m

def formI : Form Int where
  get := fun | .i _ .i64 x => some x | _ => none
  val := fun x => .i false .i64 x
  rel := fun {v x} h σ y r => by
    split at h <;> cases h
    cases r; exact .i _ _
  low := fun _ => rfl
noncomputable def tab3 : Table := deep Tryz.prog rows3 [73] 2000 6
theorem tab3_sound : SoundT Tryz.prog tab3 := deep_sound (allAt_mem rows3_at) 6
end Go.Ax

/- spec.l01Next as a table's row: numbers below a bound are told one by one. -/
namespace Go.Ax
open Go Go.Proofs

noncomputable def nextM (mx : Int) : Table := fun _ args H nd K =>
  match args with
  | [p, .i l .i64 n] => match p with
    | .p _ id off => match readCode (getB H 0), readSrc (getB H id), decide (off = 0) && !decide (id = 0) with
      | some (o', b), some (o, m, a, h), true =>
        match l && decide (1 ≤ n) && decide (n ≤ mx) with
        | true => splitK (fun v => K v (setB H id (srcR o m (nxA ⟨b, o', m⟩ a n) (nxS h n))) (okB ⟨b, o', m⟩ o m :: nd)) (nxV ⟨b, o', m⟩ a h n) (n.toNat - 1)
        | false => K (.i false .i64 (nxV ⟨b, o', m⟩ a h n)) (setB H id (srcR o m (nxA ⟨b, o', m⟩ a n) (nxS h n))) (okB ⟨b, o', m⟩ o m :: nd)
      | _, _, _ => .fail
    | _ => .fail
  | _ => .fail

theorem nextM_at (mx : Int) : SoundAt Tryz.prog 72 (nextM mx) := fun args H nd K => by
  unfold nextM
  split
  case h_2 => exact .inl rfl
  rename_i p l n
  split
  case h_2 => exact .inl rfl
  rename_i lp id off
  split
  case h_2 => exact .inl rfl
  rename_i o' b o m a h hc hs h0
  simp only [Bool.and_eq_true, decide_eq_true_eq, Bool.not_eq_true', decide_eq_false_iff_not] at h0
  obtain ⟨rfl, h0⟩ := h0
  have main : ∀ v : AV, (okB ⟨b, o', m⟩ o m = true → v.bare = .i false .i64 (nxV ⟨b, o', m⟩ a h n)) → allT (okB ⟨b, o', m⟩ o m :: nd) = true →
      allT nd = true ∧ CallOK Tryz.prog 72 [.p lp id 0, .i l .i64 n] H v (setB H id (srcR o m (nxA ⟨b, o', m⟩ a n) (nxS h n))) := fun v hv hn => by
    simp only [allT, Bool.and_eq_true] at hn
    have hg : goodB ⟨b, o', m⟩ = true := by have := hn.1; simp only [okB, Bool.and_eq_true] at this; exact this.1.1
    have ho : o = o' := by have := hn.1; simp only [okB, Bool.and_eq_true, decide_eq_true_eq] at this; exact this.1.2
    subst ho
    obtain ⟨H2, k, e1, e2, e3⟩ := next_ok hg a h n
    refine ⟨hn.2, ?_⟩
    have hk := (k.src e1 e2 e3 (l := lp) (id := id) (H := H) hc h0 hs).bare (args' := [.p lp id 0, .i l .i64 n]) rfl
    refine hk.weaken fun σ x r => ?_
    have := hv hn.1
    rw [← this] at r
    exact r.unbare
  split
  · rename_i hl
    simp only [Bool.and_eq_true, decide_eq_true_eq] at hl
    obtain ⟨k, e1, e2⟩ := splitK_sel (fun v => K v (setB H id (srcR o m (nxA ⟨b, o', m⟩ a n) (nxS h n))) (okB ⟨b, o', m⟩ o m :: nd)) (nxV ⟨b, o', m⟩ a h n) (n.toNat - 1)
    refine .inr ⟨_, _, _, e1, fun hn => main _ (fun hk => ?_) hn⟩
    have hg : goodB ⟨b, o', m⟩ = true := by simp only [okB, Bool.and_eq_true] at hk; exact hk.1.1
    have hb := nxV_bound hg a h n
    have hb2 := hb.2 hl.1.2
    have := e2 hb.1 (by omega)
    rw [this]; rfl
  · exact .inr ⟨_, _, _, rfl, fun hn => main _ (fun _ => rfl) hn⟩


noncomputable def rows4 (mx : Int) : List (FuncId × Table) := (72, nextM mx) :: rows3
theorem rows4_at (mx : Int) : allAt Tryz.prog (rows4 mx) := ⟨nextM_at mx, rows3_at⟩
noncomputable def tab4 (mx : Int) : Table := deep Tryz.prog (rows4 mx) [73] 2000 6
theorem tab4_sound (mx : Int) : SoundT Tryz.prog (tab4 mx) := deep_sound (allAt_mem (rows4_at mx)) 6
def formI3 : Form (Int × Int × Int) where
  get := fun
    | .tup [a, b, c] => match formI.get a, formI.get b, formI.get c with
      | some x, some y, some z => some (x, y, z)
      | _, _, _ => none
    | _ => none
  val := fun x => .tup [.i false .i64 x.1, .i false .i64 x.2.1, .i false .i64 x.2.2]
  rel := fun {v x} h σ y r => by
    split at h <;> (try (cases h; done))
    split at h <;> cases h
    rename_i a b c x1 x2 x3 h1 h2 h3
    cases r with | tup hr =>
    generalize hal : Array.toList _ = al at hr
    cases hr with | cons r1 hr => cases hr with | cons r2 hr => cases hr with | cons r3 hr => cases hr with | nil =>
    refine .tup ?_
    rw [hal]
    exact .cons (formI.rel h1 σ _ r1) (.cons (formI.rel h2 σ _ r2) (.cons (formI.rel h3 σ _ r3) .nil))
  low := fun _ => rfl
end Go.Ax

/- spec.l01DrawUnit: some number. -/
namespace Go.Ax
open Go Go.Proofs

noncomputable def uF (x : Int) (d : Nat) : Bool := fcvtOK .f64 .f32 (fdiv .f64 (FloatKind.f64.nearest (IntKind.i64.wrap x)) d)
noncomputable def unitNd (k : Bool) (x1 x2 : Int) : List Bool := [k, uF (x1 - 16777216) 4715268809856909312, k, k, k, uF (x1 - 16777216) 4715268809856909312, k, k, k, uF (x1 - 16777216) 4715268809856909312, k, k, k, uF (x1 - 16777216) 4769312005385355264, k, k, k,
  uF (x2 - 64) 4634204016564240384, k, k, k, k, k, k, k, k, k, k, k]
theorem uF_true (x : Int) (k : Int) (d : Nat) (hd : d = pow2 k) (h0 : fcvtOK .f64 .f32 (fdiv .f64 (FloatKind.f64.nearest 0) d) = true) (hx : -67108863 ≤ x ∧ x ≤ 67108863) (hk : 0 ≤ k) (hk' : k ≤ 100) : uF x d = true := by
  unfold uF
  rw [wrap64_id (by omega) (by omega)]
  by_cases hz : x = 0
  · subst hz; exact h0
  · rw [hd]; exact unit_ok x k (by omega) hz hk hk'
noncomputable def unitR (c : Cd) (a : Nat) (h : Int) : Option (Nat × Nat × Int × List Bool) :=
  srcEx formF c (runF Tryz.prog (tab4 7) 1000 182 [.p true 1 0] [codeB c false, srcB c a h] [] fun v H nd => .ret v H nd)
theorem unit_nd (c : Cd) (a : Nat) (h : Int) : (unitR c a h).map (fun r => r.2.2.2) = some (unitNd (okB c c.off c.len) (nxV c (nxA c a 6) (nxS h 6) 33554432) (nxV c (nxA c a 6) (nxS h 6) 129)) := by kernel_rfl
theorem unit_z1 : fcvtOK .f64 .f32 (fdiv .f64 (FloatKind.f64.nearest 0) 4715268809856909312) = true := by kernel_rfl
theorem unit_z2 : fcvtOK .f64 .f32 (fdiv .f64 (FloatKind.f64.nearest 0) 4769312005385355264) = true := by kernel_rfl
theorem unit_z3 : fcvtOK .f64 .f32 (fdiv .f64 (FloatKind.f64.nearest 0) 4634204016564240384) = true := by kernel_rfl
theorem unit_ex {c : Cd} (hc : goodB c = true) (a : Nat) (h : Int) : ∃ x a' h', SrcOK Tryz.prog 182 [] c a h (.f false .f32 x) a' h' := by
  have hn := unit_nd c a h
  have hk : okB c c.off c.len = true := by simp [okB, hc]
  cases hr : unitR c a h with
  | none => rw [hr] at hn; cases hn
  | some r =>
    obtain ⟨x, a', h', nd⟩ := r
    rw [hr] at hn
    simp only [Option.map_some, Option.some.injEq] at hn
    refine ⟨x, a', h', srcOK_of_ex (F := formF) (runF_sound (tab4_sound 7) 1000) hr ?_ rfl⟩
    rw [hn, hk]
    have b1 := nxV_bound hc (nxA c a 6) (nxS h 6) 33554432
    have b2 := nxV_bound hc (nxA c a 6) (nxS h 6) 129
    have b1' := b1.2 (by decide)
    have b2' := b2.2 (by decide)
    have e1 := uF_true (nxV c (nxA c a 6) (nxS h 6) 33554432 - 16777216) 24 4715268809856909312 (by kernel_rfl) unit_z1 (by omega) (by decide) (by decide)
    have e2 := uF_true (nxV c (nxA c a 6) (nxS h 6) 33554432 - 16777216) 36 4769312005385355264 (by kernel_rfl) unit_z2 (by omega) (by decide) (by decide)
    have e3 := uF_true (nxV c (nxA c a 6) (nxS h 6) 129 - 64) 6 4634204016564240384 (by kernel_rfl) unit_z3 (by omega) (by decide) (by decide)
    unfold unitNd
    rw [e1, e2, e3]
    rfl
noncomputable def unitV (c : Cd) (a : Nat) (h : Int) : Nat × Nat × Int :=
  open Classical in if hx : ∃ r : Nat × Nat × Int, SrcOK Tryz.prog 182 [] c a h (.f false .f32 r.1) r.2.1 r.2.2 then hx.choose else (0, a, h)
theorem unitV_ok {c : Cd} (hc : goodB c = true) (a : Nat) (h : Int) : SrcOK Tryz.prog 182 [] c a h (.f false .f32 (unitV c a h).1) (unitV c a h).2.1 (unitV c a h).2.2 := by
  obtain ⟨x, a', h', hx⟩ := unit_ex hc a h
  have he : ∃ r : Nat × Nat × Int, SrcOK Tryz.prog 182 [] c a h (.f false .f32 r.1) r.2.1 r.2.2 := ⟨(x, a', h'), hx⟩
  unfold unitV
  rw [dif_pos he]
  exact he.choose_spec
noncomputable def unitT : Table := srcT fun c a h sc => match sc with
  | [] => some (.f false .f32 (unitV c a h).1, (unitV c a h).2.1, (unitV c a h).2.2, [])
  | _ => none
theorem unit_at : SoundAt Tryz.prog 182 unitT := fun args H nd K => by
  refine srcT_sound (fun c a h sc v a' h' q hc hg _ => ?_) args H nd K
  split at hg <;> cases hg
  exact unitV_ok hc a h
end Go.Ax

/- spec.l01DrawComplex: some complex number. -/
namespace Go.Ax
open Go Go.Proofs

noncomputable def rows5 (mx : Int) : List (FuncId × Table) := (182, unitT) :: rows4 mx
theorem rows5_at (mx : Int) : allAt Tryz.prog (rows5 mx) := ⟨unit_at, rows4_at mx⟩
noncomputable def tab5 (mx : Int) : Table := deep Tryz.prog (rows5 mx) [73, 180] 2000 6
theorem tab5_sound (mx : Int) : SoundT Tryz.prog (tab5 mx) := deep_sound (allAt_mem (rows5_at mx)) 6
def formC : Form (Nat × Nat) where
  get := fun | .c _ .f32 x y => some (x, y) | _ => none
  val := fun x => .c false .f32 x.1 x.2
  rel := fun {v x} h σ y r => by
    split at h <;> cases h
    cases r with | c h1 h2 => exact .c h1 h2
  low := fun _ => rfl
end Go.Ax

/- spec.DrawFlatWave: some number and some complex number. -/
namespace Go.Ax
open Go Go.Proofs

noncomputable def rows6 (mx : Int) : List (FuncId × Table) := rows5 mx
theorem rows6_at (mx : Int) : allAt Tryz.prog (rows6 mx) := rows5_at mx
noncomputable def tab6 (mx : Int) : Table := deep Tryz.prog (rows6 mx) [73, 180] 2000 6
theorem tab6_sound (mx : Int) : SoundT Tryz.prog (tab6 mx) := deep_sound (allAt_mem (rows6_at mx)) 6
def formIC : Form (Int × Nat × Nat) where
  get := fun
    | .tup [a, b] => match formI.get a, formC.get b with
      | some x, some y => some (x, y.1, y.2)
      | _, _ => none
    | _ => none
  val := fun x => .tup [.i false .i64 x.1, .c false .f32 x.2.1 x.2.2]
  rel := fun {v x} h σ y r => by
    split at h <;> (try (cases h; done))
    split at h <;> cases h
    rename_i a b x1 x2 h1 h2
    cases r with | tup hr =>
    generalize hal : Array.toList _ = al at hr
    cases hr with | cons r1 hr => cases hr with | cons r2 hr => cases hr with | nil =>
    refine .tup ?_
    rw [hal]
    exact .cons (formI.rel h1 σ _ r1) (.cons (formC.rel h2 σ _ r2) .nil)
  low := fun _ => rfl
end Go.Ax

/- impl.halved and impl.modulo as table rows. -/
namespace Go.Ax
open Go Go.Proofs

/-- The phases for 8, 4, 2 and 1 parts of a turn. -/
def halvedV : AV := .agg [.c true .f32 1060439283 1060439283, .c true .f32 1064076127 1053028117, .c true .f32 1065030847 1044891073, .c true .f32 1065272429 1036565813]
noncomputable def tabD : Table := deep Tryz.prog [] [] 3000 8
theorem tabD_sound : SoundT Tryz.prog tabD := deep_sound (fun p hp => by cases hp) 8
theorem halved_run : joinR 0 (runF Tryz.prog tabD 3000 214 [] [] [] fun v H nd => .ret v H nd) = some (halvedV, []) := by kernel_rfl
theorem halved_ok (H : List AB) : CallOK Tryz.prog 214 [] H halvedV H := call_of_join (runF_sound tabD_sound 3000) halved_run rfl rfl H
def gHalved : List AV → Option (AV × List Bool)
  | [] => some (halvedV, [])
  | _ => none
theorem halved_at : SoundAt Tryz.prog 214 (pureT gHalved) := fun args H nd K => by
  refine pureT_sound (fun args v n h hn H => ?_) args H nd K
  unfold gHalved at h
  split at h <;> cases h
  exact halved_ok H

/-- k modulo 64, told one by one. -/
noncomputable def modT : Table := fun _ args H nd K => match args with
  | [.i _ .i64 k, .i l .i64 n] => match l && decide (n = 64) with
    | true => splitK (fun v => K v H nd) (k % 64) 63
    | false => .fail
  | _ => .fail
theorem mod_run (k : Int) : runF Tryz.prog noT 100 206 [.i false .i64 k, .i true .i64 64] [] [] (fun v H nd => .ret v H nd) = .ret (AV.i false IntKind.i64 ((IntKind.i64.wrap (k.tmod 64 + 64)).tmod 64)) [] [] := by kernel_rfl
theorem mod_val (k : Int) : (IntKind.i64.wrap (k.tmod 64 + 64)).tmod 64 = k % 64 := by
  have h1 : k.tmod 64 < 64 := Int.tmod_lt_of_pos k (by decide)
  have h2 : -64 < k.tmod 64 := by
    have := Int.lt_tmod_of_pos k (show (0 : Int) < 64 by decide); omega
  rw [wrap64_id (by omega) (by omega), Int.tmod_eq_emod_of_nonneg (by omega)]
  have h3 : k.tmod 64 = k - 64 * k.tdiv 64 := by have := Int.tmod_add_mul_tdiv k 64; omega
  omega
theorem mod_ok (k : Int) (H : List AB) : CallOK Tryz.prog 206 [.i false .i64 k, .i true .i64 64] H (.i false .i64 (k % 64)) H := by
  have h := mod_run k
  have := (call_of_sel (T := runF Tryz.prog noT 100) (H' := []) (runF_sound (noT_sound _) 100) (by rw [h]; rfl) rfl : CallOK Tryz.prog 206 [.i false .i64 k, .i true .i64 64] [] (AV.i false IntKind.i64 ((IntKind.i64.wrap (k.tmod 64 + 64)).tmod 64)) [])
  rw [mod_val] at this
  exact this.lift rfl rfl H rfl
theorem mod_at : SoundAt Tryz.prog 206 modT := fun args H nd K => by
  unfold modT
  split
  case h_2 => exact .inl rfl
  rename_i lk k l n
  split
  case h_2 => exact .inl rfl
  rename_i hl
  simp only [Bool.and_eq_true, decide_eq_true_eq] at hl
  obtain ⟨rfl, rfl⟩ := hl
  obtain ⟨j, e1, e2⟩ := splitK_sel (fun v => K v H nd) (k % 64) 63
  refine .inr ⟨_, _, _, e1, fun hn => ⟨hn, ?_⟩⟩
  have := e2 (by omega) (by omega)
  have h := (mod_ok k H).bare (args' := [.i lk .i64 k, .i true .i64 64]) rfl
  rw [this] at h
  exact h.weaken fun σ x r => (by cases r; exact .i _ _)
noncomputable def rowsP : List (FuncId × Table) := [(206, modT), (214, pureT gHalved)]
theorem rowsP_at : allAt Tryz.prog rowsP := ⟨mod_at, halved_at, trivial⟩
noncomputable def tabP : Table := deep Tryz.prog rowsP [] 3000 8
theorem tabP_sound : SoundT Tryz.prog tabP := deep_sound (allAt_mem rowsP_at) 8
end Go.Ax

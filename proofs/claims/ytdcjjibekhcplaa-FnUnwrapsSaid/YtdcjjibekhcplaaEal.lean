/- spec.DrawUnwrapFlood: the row. -/
import Derived.Test.YtdcjjibekhcplaaEak
namespace Go.Ax
open Go Go.Proofs

theorem flOk_spec {v : AV} {m : Nat} {xs : List Int} (h : flOk v = some m) (hm : m = xs.length) : ∃ d : FloodD, d.xs = xs ∧ ∀ (σ : List (Nat × Nat)) (x : Value), Rel σ v x → Rel σ (flVal d 1) x := by
  unfold flOk at h
  split at h <;> (try (cases h; done))
  rename_i l0 n l1 id off m0 z l l2 y l3 x
  split at h <;> cases h
  rename_i w hw hb
  obtain ⟨s, X⟩ := w
  rw [Bool.and_eq_true, Bool.and_eq_true] at hb
  obtain ⟨⟨e1, e2⟩, e3⟩ := hb
  have e1 := Nat.eq_of_beq_eq_true e1
  have e2 := Nat.eq_of_beq_eq_true e2
  have e3 := Nat.eq_of_beq_eq_true e3
  subst e1; subst e2; subst e3
  refine ⟨⟨n, xs, s, X, y, x⟩, rfl, fun σ w r => ?_⟩
  cases r with | tup hr =>
  generalize hal : Array.toList _ = al at hr
  cases hr with | cons r1 hr => cases hr with | cons r2 hr => cases hr with | cons r3 hr => cases hr with | cons r4 hr => cases hr with | cons r5 hr => cases hr with | nil =>
  refine .tup ?_
  rw [hal]
  refine .cons (by cases r1; exact .i _ _) (.cons ?_ (.cons ?_ (.cons (by cases r4; exact .i _ _) (.cons (by cases r5; exact .i _ _) .nil))))
  · subst hm
    rcases sl_cases r2 with ⟨_, g2, _⟩ | ⟨_, _, _, g1, g2, g3, rfl⟩
    · cases g2
    · exact .sl g1 g2 g3
  · have := r3.deep
    rw [ofW_spec hw] at this
    exact this.undeep
def DrawFl (f : FuncId) (c : Cd) (d : FloodD) : Prop := ∀ Hr, CallOK Try.prog f [.sl false 0 c.off c.len 0] (codeB c false :: Hr) (flVal d (Hr.length + 1)) (codeB c false :: (Hr ++ [.cells true (.ints .i64 d.xs)]))
theorem flPs_side {c : Cd} {a : Nat} {h : Int} {p : FlR} (hp : p ∈ flPs c a h) : p.s = 1 ∨ p.s = 2 ∨ p.s = 4 ∨ p.s = 8 := by
  have : ∀ p ∈ flPs c a h, (decide (p.s = 1) || decide (p.s = 2) || decide (p.s = 4) || decide (p.s = 8)) = true := List.all_eq_true.1 (by rfl)
  have h := this p hp
  simp only [Bool.or_eq_true, decide_eq_true_eq] at h
  omega
theorem draw86_ok {c : Cd} (hc : goodB c = true) : ∃ d : FloodD, d.xs.length ≤ 65 ∧ DrawFl 86 c d := by
  have hk : okB c c.off c.len = true := by simp [okB, hc]
  obtain ⟨x, hx, hs⟩ := Res.stops_sel (fl0_all hmapV c)
  have hm : flF x ∈ (flPs c (hmapV c true 0 (fromV c)).a (hmapV c true 0 (fromV c)).h).map (flW c (hmapV c true 0 (fromV c)).xs) := by
    rw [← fl0_ok hmapV c]
    exact List.mem_map.2 ⟨x, hx, rfl⟩
  have hlen := (hmapV_ok hc true 0 (fromV c)).1.1
  generalize (hmapV c true 0 (fromV c)).xs = xs at hm hlen
  obtain ⟨p, hp, he⟩ := List.mem_map.1 hm
  have hside := flPs_side hp
  have r0 : Reach Try.prog [.code flC] (.sl false 0 c.off c.len 0 :: undefs 67) [codeB c false] flL (flT p.n p.s xs.length 0) (flH c p.a p.h xs p.s) := by
    simp only [flF, flW, Prod.mk.injEq] at he
    obtain ⟨e1, ⟨e2, e3, e4⟩, e5⟩ := he
    have r := cupto_reach (stop := atLoop) (n := 200) (todo := [.code flC]) (t := .sl false 0 c.off c.len 0 :: undefs 67) (H := [codeB c false]) tabF1_sound hs (by rw [← e5]; exact allT_of fun b hb => by rw [List.eq_of_mem_replicate hb]; exact hk)
    rw [← e1] at r
    cases hq : Nat.beq x.H.length 6 with
    | true =>
      rw [hq] at e2 e3 e4
      dsimp only at e2 e3 e4
      have r1 := r.drops (ks := [4]) (t2 := (dropsT 1 [4] x.t x.H).2.1) (H2 := (dropsT 1 [4] x.t x.H).2.2) (Prod.ext e2.symm rfl)
      rw [← e4] at r1
      exact (r1.weak (blur_eqv flM _)).weak (eqv_of_bare e3.symm)
    | false =>
      rw [hq] at e2 e3 e4
      dsimp only at e2 e3 e4
      have r1 := r.drops (ks := []) (t2 := (dropsT 1 [] x.t x.H).2.1) (H2 := (dropsT 1 [] x.t x.H).2.2) (Prod.ext e2.symm rfl)
      rw [← e4] at r1
      exact (r1.weak (blur_eqv flM _)).weak (eqv_of_bare e3.symm)
  have hz : ∃ m q, flZ c p.a p.h p.n xs p.s = flWant c xs m q := by
    rcases hside with e | e | e | e <;> rw [e]
    · exact ⟨_, _, fl2_1 c p.a p.h p.n xs⟩
    · exact ⟨_, _, fl2_2 c p.a p.h p.n xs⟩
    · exact ⟨_, _, fl2_4 c p.a p.h p.n xs⟩
    · exact ⟨_, _, fl2_8 c p.a p.h p.n xs⟩
  obtain ⟨m, q, hz⟩ := hz
  obtain ⟨r, hr, hsel⟩ := Res.leafs_sel (fl2 c p.a p.h p.n xs p.s)
  have hmem : (flE r).map (fun z => (flOk z.1, z.2.1, z.2.2)) ∈ flWant c xs m q := by
    rw [← hz]
    exact List.mem_map.2 ⟨r, hr, rfl⟩
  have he2 := List.eq_of_mem_replicate hmem
  cases hE : flE r with
  | none => rw [hE] at he2; cases he2
  | some z =>
    obtain ⟨v, H', nd⟩ := z
    rw [hE] at he2
    simp only [Option.map_some, Option.some.injEq, Prod.mk.injEq] at he2
    obtain ⟨hv, rfl, hnd⟩ := he2
    obtain ⟨d, hd, hw⟩ := flOk_spec hv rfl
    unfold flE at hE
    split at hE <;> (try (cases hE; done))
    rename_i vs m1 H nd1 hend
    split at hE <;> (try (cases hE; done))
    rename_i v0 H0 hdrop
    simp only [Option.some.injEq, Prod.mk.injEq] at hE
    obtain ⟨rfl, rfl, rfl⟩ := hE
    have hn : allT (m1 ++ nd1) = true := by rw [hnd]; exact allT_of fun b hb => by rw [List.eq_of_mem_replicate hb]; exact hk
    rw [allT_append, Bool.and_eq_true] at hn
    obtain ⟨t, g1, g2⟩ := endOfJ (stop := fun _ => false) (n := 4000) tabF2_sound hend hsel hn.2
    have k0 := call_of_ends (args := [.sl false 0 c.off c.len 0]) Try.func86 (rfl : Try.f86.body = some flC) (r0.ends g1) g2 hn.1
    have k1 := dropN_call (H0 := [codeB c false]) hdrop k0
    refine ⟨d, by rw [hd]; exact hlen, fun Hr => ?_⟩
    have k2 := (k1.weaken hw).frame rfl rfl rfl Hr
    have e : upV ([codeB c false] : List AB).length Hr.length (flVal d 1) = flVal d (1 + Hr.length) := by rfl
    rw [e, Nat.add_comm 1] at k2
    rw [hd]
    exact k2
noncomputable def drawFV (c : Cd) : FloodD := open Classical in if hx : ∃ d : FloodD, d.xs.length ≤ 65 ∧ DrawFl 86 c d then hx.choose else ⟨0, [], 0, fun _ => (0, 0), 0, 0⟩
theorem drawFV_ok {c : Cd} (hc : goodB c = true) : (drawFV c).xs.length ≤ 65 ∧ DrawFl 86 c (drawFV c) := by
  unfold drawFV
  rw [dif_pos (draw86_ok hc)]
  exact (draw86_ok hc).choose_spec
noncomputable def drawFT (F : Cd → FloodD) : Table := fun _ args H nd K =>
  match args, H with
  | [s], B :: Hr => match readSl s, readCode B with
    | some (o, n), some (o', b) => K (flVal (F ⟨b, o', n⟩) (Hr.length + 1)) (B :: (Hr ++ [.cells true (.ints .i64 (F ⟨b, o', n⟩).xs)])) (okB ⟨b, o', n⟩ o n :: nd)
    | _, _ => .fail
  | _, _ => .fail
theorem dz86_at : SoundAt Try.prog 86 (drawFT drawFV) := fun args H nd K => by
  unfold drawFT
  split
  case h_2 => exact .inl rfl
  rename_i s B Hr
  split
  case h_2 => exact .inl rfl
  rename_i o n o' b hs hb
  refine .inr ⟨_, _, _, rfl, fun hn => ?_⟩
  simp only [allT, Bool.and_eq_true, okB] at hn
  obtain ⟨⟨⟨hg, ho⟩, _⟩, hnd⟩ := hn
  have ho : o = o' := of_decide_eq_true ho
  subst ho
  refine ⟨hnd, ?_⟩
  obtain ⟨l, rfl⟩ := readSl_spec hs
  have hB := readCode_spec hb
  subst hB
  exact ((drawFV_ok hg).2 Hr).bare (args' := [.sl l 0 o n 0]) rfl
theorem dz88_at : SoundAt Try.prog 88 (drawQT formI2 fun _ => true) := drawQT_at fun _ hc => draw88_ok hc
end Go.Ax

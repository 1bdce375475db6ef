/- Drawing functions that give lists. -/
import Derived.Test.YtdcjjibekhcplaaDbc
namespace Go.Ax
open Go Go.Proofs

def fitN (n : Nat) (xs : List Nat) : List Nat := (List.range n).map fun j => xs.getD j 0
theorem fitN_eq {n : Nat} {xs : List Nat} (h : xs.length = n) : fitN n xs = xs := by
  subst h
  have := map_range_getD (fun z : Nat => z) 0 xs xs.length rfl
  simpa [fitN] using this.symm
/-- Like 'l10T', with the list's length to be seen. -/
noncomputable def l10F : Table := fun _ args H nd K =>
  match args, H with
  | [p, .i l .i64 n], B :: S :: Hr => match p with
    | .p _ id off => match readCode B, readSrc S, decide (off = 0) && decide (id = 1) with
      | some (o', b), some (o, m, a, h), true => match chk l (decide (0 ≤ n) && decide (n ≤ 5000)) with
        | some q => K (.sl l (Hr.length + 2) 0 n.toNat 1) (B :: srcR o m (l10V ⟨b, o', m⟩ a h n).2.1 (l10V ⟨b, o', m⟩ a h n).2.2 :: (Hr ++ [.cells true (.f32 (fitN n.toNat (l10V ⟨b, o', m⟩ a h n).1))])) (okB ⟨b, o', m⟩ o m :: (q ++ nd))
        | none => .fail
      | _, _, _ => .fail
    | _ => .fail
  | _, _ => .fail
theorem fit_l10 (c : Cd) (a : Nat) (h n : Int) : fitN n.toNat (l10V c a h n).1 = (l10V c a h n).1 := fitN_eq (l10V_length _ _ _ _)
theorem l10F_eq : l10F = l10T := by
  funext f args H nd K
  unfold l10F l10T
  simp only [fit_l10]
  rfl
noncomputable def rowsDL (mx : Int) : List (FuncId × Table) := (135, l10F) :: rows4 mx
theorem rowsDL_at (mx : Int) : allAt Try.prog (rowsDL mx) := ⟨by rw [l10F_eq]; exact l10_at, rows4_at mx⟩
def inlD : List FuncId := [95, 47, 50, 53, 56, 142, 143, 59]
noncomputable def tabDL (mx : Int) : Table := tabOf (cdeep Try.prog (rowsDL mx) inlD 2000 6)
theorem tabDL_sound (mx : Int) : SoundT Try.prog (tabDL mx) := cdeep_sound (allAt_mem (rowsDL_at mx)) 6

/-! ### All answers -/
structure LeafR where
  v : AV
  H : List AB
  nd : List Bool
def Res.rets : Res → List LeafR
  | .ret v H nd => [⟨v, H, nd⟩]
  | .ite _ x y => x.rets ++ y.rets
  | .stop _ _ _ _ => []
  | .fail => []
def Res.allRet : Res → Bool
  | .ret _ _ _ => true
  | .ite _ x y => x.allRet && y.allRet
  | .stop _ _ _ _ => false
  | .fail => false
theorem Res.rets_sel : ∀ {r : Res}, r.allRet = true → ∃ x ∈ r.rets, r.sel = .ret x.v x.H x.nd
  | .ret v H nd, _ => ⟨⟨v, H, nd⟩, by simp [Res.rets], rfl⟩
  | .ite b x y, h => by
    simp only [Res.allRet, Bool.and_eq_true] at h
    cases b with
    | true =>
      obtain ⟨z, h1, h2⟩ := Res.rets_sel h.1
      exact ⟨z, by simp [Res.rets, h1], h2⟩
    | false =>
      obtain ⟨z, h1, h2⟩ := Res.rets_sel h.2
      exact ⟨z, by simp [Res.rets, h1], h2⟩
  | .stop _ _ _ _, h => by cases h
  | .fail, h => by cases h
/-- The list that an answer names: its length, where it is known. -/
def lenR (x : LeafR) : Option Nat := match x.v with
  | .sl _ id off len z => match Nat.beq off 0 && Nat.blt 0 z && Nat.blt 0 id with
    | true => match getB x.H id with
      | .cells _ (.f32 xs) => match Nat.beq xs.length len with
        | true => some len
        | false => none
      | _ => none
    | false => none
  | _ => none
noncomputable def drawR (T : Table) (f : FuncId) (c : Cd) : Res := T f [.sl false 0 c.off c.len 0] [codeB c false] [] fun v H nd => .ret v H nd
/-- A drawing function that gives a list: whatever memory there is. -/
def DrawL (f : FuncId) (c : Cd) (xs : List Nat) : Prop := ∀ Hr, CallOK Try.prog f [.sl false 0 c.off c.len 0] (codeB c false :: Hr) (.sl false (Hr.length + 1) 0 xs.length 1) (codeB c false :: (Hr ++ [.cells false (.f32 xs)]))
theorem keep1s {P : Program} {f : FuncId} {args : List AV} {H0 H1 : List AB} {l r : Bool} {id off len z : Nat} {ys : List Nat} (h : CallOK P f args H0 (.sl l id off len z) H1) (hro : ∀ i, (getB H0 i).rw = false) (hid : H0.length ≤ id) (hB : getB H1 id = .cells r (.f32 ys)) :
    CallOK P f args H0 (.sl l H0.length off len z) (H0 ++ [.cells false (.f32 ys)]) := fun σ w rargs s hra => by
  refine (h σ w rargs s hra).mono ?_
  rintro e w' ⟨rv, rfl, σ1, r1, s1, F⟩
  have hold : ∀ b, b < w.heap.size → w'.heap[b]? = w.heap[b]? := fun b hb => F.old b hb fun i z hr => by rw [hro] at hr; cases hr
  have hlt : id < σ1.length := by rw [s1.len]; exact getB_lt hB
  obtain ⟨b0, z0, hb0⟩ : ∃ b0 z0, σ1[id]? = some (b0, z0) := ⟨(σ1[id]).1, (σ1[id]).2, by rw [List.getElem?_eq_getElem hlt]⟩
  have hnew : σ[id]? = none := List.getElem?_eq_none (by rw [s.len]; exact hid)
  have hge : w.heap.size ≤ b0 := by
    rcases F.new id b0 z0 hb0 hnew with h' | ⟨j, z', hj, _⟩
    · exact h'
    · rw [hro] at hj; cases hj
  have gl : ∀ i, i < H0.length → getB (H0 ++ [.cells false (.f32 ys)]) i = getB H0 i := fun i hi => getB_append_left hi
  have hrw : ∀ i, (getB (H0 ++ [.cells false (.f32 ys)]) i).rw = false := fun i => by
    rcases Nat.lt_or_ge i H0.length with hi | hi
    · rw [gl i hi]; exact hro i
    · rw [getB_append_right hi]
      match i - H0.length with
      | 0 => rfl
      | k + 1 => rfl
  have hσl := s.len
  refine ⟨rv, rfl, σ ++ [(b0, z0)], ?_, ⟨by simp [s.len], fun i b z hbz => ?_, fun i j b z z' _ _ hr _ => by rw [hrw] at hr; cases hr⟩, ⟨F.os, F.tape, F.output, F.size, fun b hb _ => hold b hb, Ext.append _ _, fun i b z hbz hn => ?_, fun i hi hr => by rw [hrw] at hr; cases hr⟩⟩
  · cases r1 with
    | sl h1 h2 h3 =>
      rw [hb0] at h1
      cases h1
      refine .sl ?_ h2 h3
      rw [List.getElem?_append_right (by omega), hσl, Nat.sub_self]; rfl
    | slz => exact .slz
  · rcases snoc_cases hbz with ⟨hi, hb'⟩ | ⟨rfl, hb'⟩
    · rw [gl i (by omega)]
      have hbl := (s.blk i b z hb').mono (Ext.append σ [(b0, z0)])
      cases hg : getB H0 i with
      | dead => trivial
      | cells r A => rw [hold b (s.lt hb' (by rw [hg]; rfl)), ← hg]; exact hbl
      | code o xs => rw [hold b (s.lt hb' (by rw [hg]; rfl)), ← hg]; exact hbl
    · cases hb'
      rw [getB_append_right (by omega), hσl, Nat.sub_self]
      have := s1.blk id _ _ hb0
      rw [hB] at this
      exact ro_f32 this
  · rcases snoc_cases hbz with ⟨hi, hb'⟩ | ⟨rfl, hb'⟩
    · rw [hn] at hb'; cases hb'
    · cases hb'; exact .inl hge
theorem drawL_of {T : Table} {f : FuncId} {c : Cd} {qs : List (Nat × Nat)} (hT : SoundT Try.prog T) (hc : goodB c = true) (ha : (drawR T f c).allRet = true)
    (h : (drawR T f c).rets.map (fun x => (lenR x, x.nd)) = qs.map fun q => (some q.2, List.replicate q.1 (okB c c.off c.len))) : ∃ xs, xs.length ∈ qs.map (·.2) ∧ DrawL f c xs := by
  obtain ⟨x, hx, hs⟩ := Res.rets_sel ha
  have hm : (lenR x, x.nd) ∈ qs.map fun q => (some q.2, List.replicate q.1 (okB c c.off c.len)) := by
    rw [← h]; exact List.mem_map.2 ⟨x, hx, rfl⟩
  obtain ⟨q, hq, he⟩ := List.mem_map.1 hm
  simp only [Prod.mk.injEq] at he
  obtain ⟨e1, e2⟩ := he
  have hk : okB c c.off c.len = true := by simp [okB, hc]
  have hnd : allT x.nd = true := allT_of fun b hb => by
    rw [← e2] at hb
    have := (List.mem_replicate.1 hb).2
    rw [this, hk]
  have hcall := call_of_sel hT hs hnd
  unfold lenR at e1
  split at e1 <;> (try (cases e1; done))
  rename_i l id off len z hv
  split at e1 <;> (try (cases e1; done))
  rename_i hcond
  split at e1 <;> (try (cases e1; done))
  rename_i r xs hg
  split at e1 <;> cases e1
  rename_i hlen
  simp only [Bool.and_eq_true] at hcond
  obtain ⟨⟨h0, hz⟩, hid⟩ := hcond
  have h0 := Nat.eq_of_beq_eq_true h0
  have hlen := Nat.eq_of_beq_eq_true hlen
  subst h0
  rw [← hlen] at hv
  rw [hv] at hcall
  have k1 := keep1s hcall (fun i => by match i with
    | 0 => rfl
    | i + 1 => rfl) (blt_true hid) hg
  refine ⟨xs, List.mem_map.2 ⟨q, hq, hlen.symm⟩, fun Hr => ?_⟩
  have k2 := k1.frame rfl rfl rfl Hr
  have e : frameH [codeB c false] Hr ([codeB c false] ++ [.cells false (.f32 xs)]) = codeB c false :: (Hr ++ [.cells false (.f32 xs)]) := rfl
  rw [e] at k2
  refine k2.weaken fun σ v r => ?_
  have e2 : upV [codeB c false].length Hr.length (.sl l [codeB c false].length 0 xs.length z) = .sl l (1 + Hr.length) 0 xs.length z := rfl
  rw [e2, Nat.add_comm] at r
  exact sl_z1 r (blt_true hz)
theorem shadow_all (c : Cd) : (drawR (tabDL 7) 47 c).allRet = true := by kernel_rfl
def shadowQ : List (Nat × Nat) := [(3, 5), (3, 31), (3, 23), (3, 19), (3, 11), (3, 7), (3, 3)]
theorem shadow_rets (c : Cd) : (drawR (tabDL 7) 47 c).rets.map (fun x => (lenR x, x.nd)) = shadowQ.map fun q => (some q.2, List.replicate q.1 (okB c c.off c.len)) := by kernel_rfl
theorem drawShadow_ok {c : Cd} (hc : goodB c = true) : ∃ xs, xs.length ∈ shadowQ.map (·.2) ∧ DrawL 47 c xs := drawL_of (tabDL_sound 7) hc (shadow_all c) (shadow_rets c)
end Go.Ax

/- Drawing functions that give lists, whatever way the lists were made. -/
namespace Go.Ax
open Go Go.Proofs

/-- The length of the list that an answer names. -/
def lenF (x : LeafR) : Option Nat := match x.v with
  | .sl _ id off len z => match Nat.beq off 0 && (Nat.blt 0 z && Nat.blt 0 id) with
    | true => match getB x.H id with
      | .cells _ A => match f32Of A with
        | some xs => match Nat.beq xs.length len with
          | true => some len
          | false => none
        | none => none
      | _ => none
    | false => none
  | _ => none
def lenOK (ok : Nat → Bool) (x : LeafR) : Bool := match lenF x with
  | some n => ok n
  | none => false
theorem code_ro (c : Cd) : ∀ i, (getB [codeB c false] i).rw = false := fun i => by
  match i with
  | 0 => rfl
  | i + 1 => rfl
theorem lenF_spec {f : FuncId} {c : Cd} {x : LeafR} {n : Nat} (h : lenF x = some n) (hk : CallOK Try.prog f [.sl false 0 c.off c.len 0] [codeB c false] x.v x.H) : ∃ xs, xs.length = n ∧ DrawL f c xs := by
  unfold lenF at h
  split at h <;> (try (cases h; done))
  rename_i l id off len z hv
  split at h <;> (try (cases h; done))
  rename_i hcond
  split at h <;> (try (cases h; done))
  rename_i r A hg
  split at h <;> (try (cases h; done))
  rename_i xs hA
  split at h <;> cases h
  rename_i hlen
  simp only [Bool.and_eq_true] at hcond
  obtain ⟨h0, hz, hid⟩ := hcond
  have h0 := Nat.eq_of_beq_eq_true h0
  have hlen := Nat.eq_of_beq_eq_true hlen
  subst h0
  rw [← hlen] at hv
  rw [hv] at hk
  have k0 := hk.refit hg hA
  have k1 := keep1s k0 (code_ro c) (blt_true hid) (getB_setB_same (getB_lt hg))
  refine ⟨xs, hlen, fun Hr => ?_⟩
  have k2 := k1.frame rfl rfl rfl Hr
  have e : frameH [codeB c false] Hr ([codeB c false] ++ [.cells false (.f32 xs)]) = codeB c false :: (Hr ++ [.cells false (.f32 xs)]) := rfl
  rw [e] at k2
  refine k2.weaken fun σ v r => ?_
  have e2 : upV [codeB c false].length Hr.length (.sl l [codeB c false].length 0 xs.length z) = .sl l (1 + Hr.length) 0 xs.length z := rfl
  rw [e2, Nat.add_comm] at r
  exact sl_z1 r (blt_true hz)
theorem drawF_of {T : Table} {f : FuncId} {c : Cd} {ok : Nat → Bool} (hT : SoundT Try.prog T) (hc : goodB c = true) (ha : (drawR T f c).allRet = true) (hl : (drawR T f c).rets.all (lenOK ok) = true)
    {G : List (List Bool)} (hn : (drawR T f c).rets.map (fun x => x.nd) = G) (hG : okB c c.off c.len = true → ∀ l ∈ G, allT l = true) : ∃ xs, ok xs.length = true ∧ DrawL f c xs := by
  obtain ⟨x, hx, hs⟩ := Res.rets_sel ha
  have hk : okB c c.off c.len = true := by simp [okB, hc]
  have hnd : allT x.nd = true := hG hk _ (hn ▸ List.mem_map.2 ⟨x, hx, rfl⟩)
  have hcall := call_of_sel hT hs hnd
  have h1 := List.all_eq_true.1 hl x hx
  unfold lenOK at h1
  split at h1
  · rename_i n hlen
    obtain ⟨xs, e, hd⟩ := lenF_spec hlen hcall
    exact ⟨xs, by rw [e]; exact h1, hd⟩
  · cases h1

/-! ### Two lists -/
/-- Of what a call made only its two lists are kept. -/
theorem keep2s {P : Program} {f : FuncId} {args : List AV} {H0 H1 : List AB} {l r l' r' : Bool} {id off len z id' off' len' z' : Nat} {ys zs : List Nat} (h : CallOK P f args H0 (.tup [.sl l id off len z, .sl l' id' off' len' z']) H1) (hro : ∀ i, (getB H0 i).rw = false)
    (hid : H0.length ≤ id) (hB : getB H1 id = .cells r (.f32 ys)) (hid' : H0.length ≤ id') (hB' : getB H1 id' = .cells r' (.f32 zs)) :
    CallOK P f args H0 (.tup [.sl l H0.length off len z, .sl l' (H0.length + 1) off' len' z']) (H0 ++ [.cells false (.f32 ys), .cells false (.f32 zs)]) := fun σ w rargs s hra => by
  refine (h σ w rargs s hra).mono ?_
  rintro e w' ⟨rv, rfl, σ1, r1, s1, F⟩
  have hold : ∀ b, b < w.heap.size → w'.heap[b]? = w.heap[b]? := fun b hb => F.old b hb fun i z hr => by rw [hro] at hr; cases hr
  have look : ∀ {i : Nat} {B : AB}, B ≠ .dead → getB H1 i = B → H0.length ≤ i → ∃ b z, σ1[i]? = some (b, z) ∧ w.heap.size ≤ b := fun {i B} hd hB hi => by
    have hlt : i < σ1.length := by
      rw [s1.len]
      rcases Nat.lt_or_ge i H1.length with h | h
      · exact h
      · rw [getB_none h] at hB; exact absurd hB.symm hd
    refine ⟨(σ1[i]).1, (σ1[i]).2, by rw [List.getElem?_eq_getElem hlt], ?_⟩
    rcases F.new i (σ1[i]).1 (σ1[i]).2 (by rw [List.getElem?_eq_getElem hlt]) (List.getElem?_eq_none (by rw [s.len]; exact hi)) with h' | ⟨j, z', hj, _⟩
    · exact h'
    · rw [hro] at hj; cases hj
  obtain ⟨b0, z0, hb0, hge⟩ := look (by simp) hB hid
  obtain ⟨b1, z1, hb1, hge'⟩ := look (by simp) hB' hid'
  have gl : ∀ i, i < H0.length → getB (H0 ++ [.cells false (.f32 ys), .cells false (.f32 zs)]) i = getB H0 i := fun i hi => getB_append_left hi
  have hrw : ∀ i, (getB (H0 ++ [.cells false (.f32 ys), .cells false (.f32 zs)]) i).rw = false := fun i => by
    rcases Nat.lt_or_ge i H0.length with hi | hi
    · rw [gl i hi]; exact hro i
    · rw [getB_append_right hi]
      match i - H0.length with
      | 0 => rfl
      | 1 => rfl
      | k + 2 => rfl
  have hσl := s.len
  have cases2 : ∀ {i b z : Nat}, (σ ++ [(b0, z0), (b1, z1)])[i]? = some (b, z) → (i < σ.length ∧ σ[i]? = some (b, z)) ∨ (i = σ.length ∧ b = b0 ∧ z = z0) ∨ (i = σ.length + 1 ∧ b = b1 ∧ z = z1) := fun {i b z} hb => by
    rcases Nat.lt_or_ge i σ.length with hi | hi
    · rw [List.getElem?_append_left hi] at hb; exact .inl ⟨hi, hb⟩
    · rw [List.getElem?_append_right hi] at hb
      match hd : i - σ.length with
      | 0 => rw [hd] at hb; cases hb; exact .inr (.inl ⟨by omega, rfl, rfl⟩)
      | 1 => rw [hd] at hb; cases hb; exact .inr (.inr ⟨by omega, rfl, rfl⟩)
      | k + 2 => rw [hd] at hb; simp at hb
  refine ⟨rv, rfl, σ ++ [(b0, z0), (b1, z1)], ?_, ⟨by simp [s.len], fun i b z hbz => ?_, fun i j b z z' _ _ hr _ => by rw [hrw] at hr; cases hr⟩, ⟨F.os, F.tape, F.output, F.size, fun b hb _ => hold b hb, Ext.append _ _, fun i b z hbz hn => ?_, fun i hi hr => by rw [hrw] at hr; cases hr⟩⟩
  · cases r1 with | tup hr =>
    generalize hal : Array.toList _ = al at hr
    cases hr with | cons r1 hr => cases hr with | cons r2 hr => cases hr with | nil =>
    refine .tup ?_
    rw [hal]
    refine .cons ?_ (.cons ?_ .nil)
    · cases r1 with
      | sl h1 h2 h3 =>
        rw [hb0] at h1
        cases h1
        refine .sl ?_ h2 h3
        rw [List.getElem?_append_right (by omega), hσl, Nat.sub_self]; rfl
      | slz => exact .slz
    · cases r2 with
      | sl h1 h2 h3 =>
        rw [hb1] at h1
        cases h1
        refine .sl ?_ h2 h3
        rw [List.getElem?_append_right (by omega), hσl, Nat.add_sub_cancel_left]; rfl
      | slz => exact .slz
  · rcases cases2 hbz with ⟨hi, hb'⟩ | ⟨rfl, rfl, rfl⟩ | ⟨rfl, rfl, rfl⟩
    · rw [gl i (by omega)]
      have hbl := (s.blk i b z hb').mono (Ext.append σ [(b0, z0), (b1, z1)])
      cases hg : getB H0 i with
      | dead => trivial
      | cells r A => rw [hold b (s.lt hb' (by rw [hg]; rfl)), ← hg]; exact hbl
      | code o xs => rw [hold b (s.lt hb' (by rw [hg]; rfl)), ← hg]; exact hbl
    · rw [getB_append_right (by omega), hσl, Nat.sub_self]
      have := s1.blk id _ _ hb0
      rw [hB] at this
      exact ro_f32 this
    · rw [getB_append_right (by omega), hσl, Nat.add_sub_cancel_left]
      have := s1.blk id' _ _ hb1
      rw [hB'] at this
      exact ro_f32 this
  · rcases cases2 hbz with ⟨hi, hb'⟩ | ⟨rfl, rfl, rfl⟩ | ⟨rfl, rfl, rfl⟩
    · rw [hn] at hb'; cases hb'
    · exact .inl hge
    · exact .inl hge'
def lenG (x : LeafR) : Option (Nat × Nat) := match x.v with
  | .tup [a, b] => match lenF ⟨a, x.H, []⟩, lenF ⟨b, x.H, []⟩ with
    | some n, some m => some (n, m)
    | _, _ => none
  | _ => none
def lenOK2 (ok : Nat → Nat → Bool) (x : LeafR) : Bool := match lenG x with
  | some (n, m) => ok n m
  | none => false
def DrawLL (f : FuncId) (c : Cd) (xs ys : List Nat) : Prop := ∀ Hr, CallOK Try.prog f [.sl false 0 c.off c.len 0] (codeB c false :: Hr) (.tup [.sl false (Hr.length + 1) 0 xs.length 1, .sl false (Hr.length + 2) 0 ys.length 1]) (codeB c false :: (Hr ++ [.cells false (.f32 xs), .cells false (.f32 ys)]))
theorem lenF_parts {v : AV} {H : List AB} {n : Nat} (h : lenF ⟨v, H, []⟩ = some n) : ∃ l id z r A xs, v = .sl l id 0 xs.length z ∧ 0 < z ∧ 0 < id ∧ getB H id = .cells r A ∧ f32Of A = some xs ∧ xs.length = n := by
  unfold lenF at h
  split at h <;> (try (cases h; done))
  rename_i l id off len z hv
  split at h <;> (try (cases h; done))
  rename_i hcond
  split at h <;> (try (cases h; done))
  rename_i r A hg
  split at h <;> (try (cases h; done))
  rename_i xs hA
  split at h <;> cases h
  rename_i hlen
  simp only [Bool.and_eq_true] at hcond
  obtain ⟨h0, hz, hid⟩ := hcond
  have h0 := Nat.eq_of_beq_eq_true h0
  have hlen := Nat.eq_of_beq_eq_true hlen
  subst h0; subst hlen
  exact ⟨l, id, z, r, A, xs, hv, blt_true hz, blt_true hid, hg, hA, rfl⟩
theorem lenG_spec {f : FuncId} {c : Cd} {x : LeafR} {n m : Nat} (h : lenG x = some (n, m)) (hk : CallOK Try.prog f [.sl false 0 c.off c.len 0] [codeB c false] x.v x.H) : ∃ xs ys, xs.length = n ∧ ys.length = m ∧ DrawLL f c xs ys := by
  unfold lenG at h
  split at h <;> (try (cases h; done))
  rename_i a b hv
  split at h <;> cases h
  rename_i h1 h2
  obtain ⟨l, id, z, r, A, xs, rfl, hz, hid, hg, hA, hn⟩ := lenF_parts h1
  obtain ⟨l', id', z', r', A', ys, rfl, hz', hid', hg', hA', hm⟩ := lenF_parts h2
  rw [hv] at hk
  refine ⟨xs, ys, hn, hm, fun Hr => ?_⟩
  have k0 := hk.refit hg hA
  have hx : ∃ r2 A2, getB (setB x.H id (.cells r (.f32 xs))) id' = .cells r2 A2 ∧ f32Of A2 = some ys := by
    by_cases hi : id = id'
    · subst hi
      rw [getB_setB_same (getB_lt hg)]
      rw [hg] at hg'
      cases hg'
      rw [hA] at hA'
      cases hA'
      exact ⟨r, _, rfl, rfl⟩
    · rw [getB_setB_ne hi]
      exact ⟨r', A', hg', hA'⟩
  obtain ⟨r2, A2, g2, a2⟩ := hx
  have k1 := k0.refit g2 a2
  have g1 : getB (setB (setB x.H id (.cells r (.f32 xs))) id' (.cells r2 (.f32 ys))) id = .cells r (.f32 xs) ∨ (id = id' ∧ xs = ys) := by
    by_cases hi : id' = id
    · refine .inr ⟨hi.symm, ?_⟩
      subst hi
      rw [getB_setB_same (getB_lt hg)] at g2
      cases g2
      cases a2; rfl
    · rw [getB_setB_ne hi]
      exact .inl (getB_setB_same (getB_lt hg))
  have g2' : getB (setB (setB x.H id (.cells r (.f32 xs))) id' (.cells r2 (.f32 ys))) id' = .cells r2 (.f32 ys) := getB_setB_same (getB_lt g2)
  have g1 : ∃ r3, getB (setB (setB x.H id (.cells r (.f32 xs))) id' (.cells r2 (.f32 ys))) id = .cells r3 (.f32 xs) := by
    rcases g1 with h | ⟨rfl, rfl⟩
    · exact ⟨_, h⟩
    · exact ⟨_, g2'⟩
  obtain ⟨r3, g1⟩ := g1
  have k2 := (keep2s k1 (code_ro c) hid g1 hid' g2').frame rfl rfl rfl Hr
  have e : frameH [codeB c false] Hr ([codeB c false] ++ [.cells false (.f32 xs), .cells false (.f32 ys)]) = codeB c false :: (Hr ++ [.cells false (.f32 xs), .cells false (.f32 ys)]) := rfl
  rw [e] at k2
  refine k2.weaken fun σ v r => ?_
  have e2 : upV [codeB c false].length Hr.length (.tup [.sl l [codeB c false].length 0 xs.length z, .sl l' ([codeB c false].length + 1) 0 ys.length z']) = .tup [.sl l (1 + Hr.length) 0 xs.length z, .sl l' (2 + Hr.length) 0 ys.length z'] := rfl
  rw [e2, Nat.add_comm 1, Nat.add_comm 2] at r
  cases r with | tup hr =>
  generalize hal : Array.toList _ = al at hr
  cases hr with | cons r1 hr => cases hr with | cons r2 hr => cases hr with | nil =>
  refine .tup ?_
  rw [hal]
  exact .cons (sl_z1 r1 hz) (.cons (sl_z1 r2 hz') .nil)
theorem drawG_of {T : Table} {f : FuncId} {c : Cd} {ok : Nat → Nat → Bool} (hT : SoundT Try.prog T) (hc : goodB c = true) (ha : (drawR T f c).allRet = true) (hl : (drawR T f c).rets.all (lenOK2 ok) = true)
    {G : List (List Bool)} (hn : (drawR T f c).rets.map (fun x => x.nd) = G) (hG : okB c c.off c.len = true → ∀ l ∈ G, allT l = true) : ∃ xs ys, ok xs.length ys.length = true ∧ DrawLL f c xs ys := by
  obtain ⟨x, hx, hs⟩ := Res.rets_sel ha
  have hk : okB c c.off c.len = true := by simp [okB, hc]
  have hnd : allT x.nd = true := hG hk _ (hn ▸ List.mem_map.2 ⟨x, hx, rfl⟩)
  have hcall := call_of_sel hT hs hnd
  have h1 := List.all_eq_true.1 hl x hx
  unfold lenOK2 at h1
  split at h1
  · rename_i n m hlen
    obtain ⟨xs, ys, e, e', hd⟩ := lenG_spec hlen hcall
    exact ⟨xs, ys, by rw [e, e']; exact h1, hd⟩
  · cases h1
end Go.Ax

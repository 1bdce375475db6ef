/- What a drawing function gives, as a row. -/
import Derived.Test.YtdcjjibekhcplaaGreatAaw
namespace Go.Ax
open Go Go.Proofs

noncomputable def drawV {α : Type} [Inhabited α] (F : Form α) (f : FuncId) (c : Cd) : α := open Classical in if hx : ∃ x, DrawOK Tryz.prog f c (F.val x) then hx.choose else default
theorem drawV_ok {α : Type} [Inhabited α] {F : Form α} {f : FuncId} {c : Cd} (h : ∃ x, DrawOK Tryz.prog f c (F.val x)) : DrawOK Tryz.prog f c (F.val (drawV F f c)) := by
  unfold drawV
  rw [dif_pos h]
  exact h.choose_spec
noncomputable def drawT {α : Type} [Inhabited α] (F : Form α) : Table := fun f args H nd K =>
  match args, H with
  | [s], B :: _ => match readSl s, readCode B with
    | some (o, n), some (o', b) => K (F.val (drawV F f ⟨b, o', n⟩)) H (okB ⟨b, o', n⟩ o n :: nd)
    | _, _ => .fail
  | _, _ => .fail
theorem drawT_at {α : Type} [Inhabited α] {F : Form α} {f : FuncId} (h : ∀ c, goodB c = true → ∃ x, DrawOK Tryz.prog f c (F.val x)) : SoundAt Tryz.prog f (drawT F) := fun args H nd K => by
  unfold drawT
  split
  case h_2 => exact .inl rfl
  rename_i s B Hr
  split
  case h_2 => exact .inl rfl
  rename_i o n o' b hs hb
  refine .inr ⟨_, _, _, rfl, fun hn => ?_⟩
  simp only [allT, Bool.and_eq_true, okB] at hn
  obtain ⟨⟨⟨hg, ho⟩, _⟩, hnd⟩ := hn
  have ho : o = o' := of_decide_eq_true ho
  subst ho
  refine ⟨hnd, ?_⟩
  obtain ⟨l, rfl⟩ := readSl_spec hs
  have hB := readCode_spec hb
  subst hB
  exact (drawV_ok (h _ hg) Hr).bare (args' := [.sl l 0 o n 0]) rfl
end Go.Ax

/- The law of gratings: rows. -/
namespace Go.Ax
open Go Go.Proofs

def sliR (n x w : Int) : AV := grR n (slB n x w) (bit (slT n x w)) (zer (slT n x w))
def disR (n v u r : Int) : AV := grR n (diB n v u r) (bit (diT n v u r)) (zer (diT n v u r))
def graR (n p q : Int) : AV := grR n (grB n p q) (bit (grT n p q)) (zer (grT n p q))
def cheR (n p : Int) : AV := grR n (chB n p) (bit (chT n p)) (zer (chT n p))
def zonR (n v u q : Int) : AV := grR n (zoB n v u q) (bit (zoT n v u q)) (zer (zoT n v u q))
def blaR (n p k : Int) : AV := grR n (blB n p k) (fun j => phX (blK n p k j)) (fun j => phY (blK n p k j))
def lenR (n v u k : Int) : AV := grR n (leB n v u k) (fun j => phX (leK n v u k j)) (fun j => phY (leK n v u k j))
theorem grR_ph (n : Int) (bad : Bool) (k : Nat → Int) : grR n bad (fun j => spX (k j)) (fun j => spY (k j)) = grR n bad (fun j => phX (k j)) (fun j => phY (k j)) := by
  have e : grX n bad (fun j => spX (k j)) (fun j => spY (k j)) = grX n bad (fun j => phX (k j)) (fun j => phY (k j)) := funext fun j => by
    unfold grX
    cases grOK n bad && Nat.blt j (n.toNat * n.toNat) with
    | false => rfl
    | true => simp only [(plus_ph (k j)).1, (plus_ph (k j)).2, (plus_phx (k j)).1, (plus_phx (k j)).2]
  unfold grR
  rw [e]
def gR1 (g : Int → Int → AV) : List AV → Option (AV × List Bool)
  | [.i _ .i64 n, .i _ .i64 x] => some (g n x, [])
  | _ => none
def gR2 (g : Int → Int → Int → AV) : List AV → Option (AV × List Bool)
  | [.i _ .i64 n, .i _ .i64 x, .i _ .i64 y] => some (g n x y, [])
  | _ => none
def gR3 (g : Int → Int → Int → Int → AV) : List AV → Option (AV × List Bool)
  | [.i _ .i64 n, .i _ .i64 x, .i _ .i64 y, .i _ .i64 z] => some (g n x y z, [])
  | _ => none
theorem gR1_at {f : FuncId} {g : Int → Int → AV} (h : ∀ n x H, CallOK Tryz.prog f (grA false n [x]) H (g n x) H) : SoundAt Tryz.prog f (pureT (gR1 g)) := fun args H nd K => by
  refine pureT_sound (fun args v n h' hn H => ?_) args H nd K
  unfold gR1 at h'
  split at h' <;> cases h'
  exact (h _ _ H).bare rfl
theorem gR2_at {f : FuncId} {g : Int → Int → Int → AV} (h : ∀ n x y H, CallOK Tryz.prog f (grA false n [x, y]) H (g n x y) H) : SoundAt Tryz.prog f (pureT (gR2 g)) := fun args H nd K => by
  refine pureT_sound (fun args v n h' hn H => ?_) args H nd K
  unfold gR2 at h'
  split at h' <;> cases h'
  exact (h _ _ _ H).bare rfl
theorem gR3_at {f : FuncId} {g : Int → Int → Int → Int → AV} (h : ∀ n x y z H, CallOK Tryz.prog f (grA false n [x, y, z]) H (g n x y z) H) : SoundAt Tryz.prog f (pureT (gR3 g)) := fun args H nd K => by
  refine pureT_sound (fun args v n h' hn H => ?_) args H nd K
  unfold gR3 at h'
  split at h' <;> cases h'
  exact (h _ _ _ _ H).bare rfl
instance : Inhabited (Int × (Nat → Nat × Nat)) := ⟨(0, fun _ => (0, 0))⟩
noncomputable def rowsL3 : List (FuncId × Table) :=
  [(6, drawT formI3), (7, pureT (gR2 sliR)), (8, pureT (gR2 sliR)), (9, openT), (10, sumT), (11, drawT formI4), (12, pureT (gR3 disR)), (13, pureT (gR3 disR)), (14, pureT gInter), (15, drawT formI3), (16, pureT (gR2 graR)), (17, pureT (gR2 graR)),
   (18, drawT formI2), (19, pureT (gR1 cheR)), (20, pureT (gR1 cheR)), (21, drawT formI4), (22, pureT (gR3 zonR)), (23, pureT (gR3 zonR)), (24, drawT formI3), (25, pureT (gR2 blaR)), (26, pureT (gR2 blaR)), (27, drawT formI4), (28, pureT (gR3 lenR)), (29, pureT (gR3 lenR)),
   (30, drawT formW), (31, pureT gTurn), (32, pureT gTurn)]
theorem rowsL3_at : ∀ p ∈ rowsL3, SoundAt Tryz.prog p.1 p.2 := fun p hp => by
  simp only [rowsL3, List.mem_cons, List.not_mem_nil, or_false] at hp
  rcases hp with rfl | rfl | rfl | rfl | rfl | rfl | rfl | rfl | rfl | rfl | rfl | rfl | rfl | rfl | rfl | rfl | rfl | rfl | rfl | rfl | rfl | rfl | rfl | rfl | rfl | rfl | rfl
  · exact drawT_at fun c hc => drawSlit_ok hc
  · exact gR2_at fun n x w H => (grfn7 x w).ok n H
  · exact gR2_at fun n x w H => slit8_ok n x w H
  · exact open_at
  · exact sum_at
  · exact drawT_at fun c hc => drawDisc_ok hc
  · exact gR3_at fun n v u r H => (grfn12 v u r).ok n H
  · exact gR3_at fun n v u r H => (grfn13 v u r).ok n H
  · exact inter_at
  · exact drawT_at fun c hc => drawGrating_ok hc
  · exact gR2_at fun n p q H => (grfn16 p q).ok n H
  · exact gR2_at fun n p q H => (grfn17 p q).ok n H
  · exact drawT_at fun c hc => drawCheck_ok hc
  · exact gR1_at fun n p H => (grfn19 p).ok n H
  · exact gR1_at fun n p H => (grfn20 p).ok n H
  · exact drawT_at fun c hc => drawZone_ok hc
  · exact gR3_at fun n v u q H => (grfn22 v u q).ok n H
  · exact gR3_at fun n v u q H => (grfn23 v u q).ok n H
  · exact drawT_at fun c hc => drawBlazed_ok hc
  · exact gR2_at fun n p k H => (grfn25 p k).ok n H
  · exact gR2_at fun n p k H => by
      have := (grfn26 p k).ok n H
      rw [grR_ph] at this
      exact this
  · exact drawT_at fun c hc => drawLens_ok hc
  · exact gR3_at fun n v u k H => (grfn28 v u k).ok n H
  · exact gR3_at fun n v u k H => by
      have := (grfn29 v u k).ok n H
      rw [grR_ph] at this
      exact this
  · exact drawT_at fun c hc => drawTurn_ok hc
  · exact turn_at 31 (.inl rfl)
  · exact turn_at 32 (.inr rfl)
noncomputable def tabL3 : Table := tabOf (jdeep Tryz.prog rowsL3 [3] 3000 8)
theorem tabL3_sound : SoundT Tryz.prog tabL3 := jdeep_sound rowsL3_at 8
noncomputable def lwC : Code := Tryz.f3.body.getD .skip
noncomputable def lwAt (p : Nat) : List Item := [.code (dropSeq p lwC)]
end Go.Ax

/- The law of gratings: its parts, stated. -/
namespace Go.Ax
open Go Go.Proofs

def eqZX (X Y : Nat → Nat × Nat) : Nat → Nat → Bool
  | 0, _ => true
  | m + 1, j => (feq .f32 (X j).1 (Y j).1 && feq .f32 (X j).2 (Y j).2) && eqZX X Y m (Nat.succ j)
def eqZ (n : Int) (X : Nat → Nat × Nat) (n' : Int) (X' : Nat → Nat × Nat) : Bool := (n == n') && (eqZX X X' 64 0 && true)
def neZ (C C' : Int) (E : Bool) : Bool := cond (!eqQ false C C') true (!E)
/-- A wave and a code, told apart by a test. -/
def grC (n : Int) (bad : Bool) : Int := cond (grOK n bad) 0 2
def grS (n : Int) (bad : Bool) : Int := cond (grOK n bad) n 0
def grE (n : Int) (bad : Bool) (re im : Nat → Nat) : Bool := eqZ (grS n bad) (grX n bad re im) (grS n bad) (grX n bad re im)
def wvB (n : Int) (X : Nat → Nat × Nat) : AB := .cells true (.lit (waveL n X))
noncomputable def d6 (c : Cd) : Int × Int × Int := drawV formI3 6 c
noncomputable def d11 (c : Cd) : Int × Int × Int × Int := drawV formI4 11 c
noncomputable def d15 (c : Cd) : Int × Int × Int := drawV formI3 15 c
noncomputable def d18 (c : Cd) : Int × Int := drawV formI2 18 c
noncomputable def d21 (c : Cd) : Int × Int × Int × Int := drawV formI4 21 c
noncomputable def d24 (c : Cd) : Int × Int × Int := drawV formI3 24 c
noncomputable def d27 (c : Cd) : Int × Int × Int × Int := drawV formI4 27 c
noncomputable def d30 (c : Cd) : Int × (Nat → Nat × Nat) := drawV formW 30 c
/-! ### States -/
def s0 (c : Cd) : List AV := .sl false 0 c.off c.len 0 :: undefs 371
def k8 (c : Cd) (n w C : Int) : List (Nat × AV) := [(0, .sl false 0 c.off c.len 0), (3, .i false .i64 n), (5, .i false .i64 w), (6, .p true 1 0), (7, .i false .i64 C)]
def k10 (c : Cd) : List (Nat × AV) := [(0, .sl false 0 c.off c.len 0)]
def k15 (c : Cd) (n v u r C : Int) : List (Nat × AV) := [(0, .sl false 0 c.off c.len 0), (12, .i false .i64 n), (13, .i false .i64 v), (14, .i false .i64 u), (15, .i false .i64 r), (16, .p true 1 0), (17, .i false .i64 C)]
def k39 (C : Int) : List (Nat × AV) := [(60, .p true 1 0), (61, .p true 2 0), (62, .i false .i64 C)]
def c0 : Cd := ⟨[], 0, 0⟩
noncomputable def z1 (c : Cd) : Res := jupto Tryz.prog tabL3 (atCut 28) 2000 (lwAt 0) (s0 c) [codeB c false]
noncomputable def z2 (c : Cd) (n w C m : Int) (Y : Nat → Nat × Nat) : Res := jupto Tryz.prog tabL3 (atCut 27) 2000 (lwAt 6) (tmpsOf 372 (k8 c n w C)) [codeB c false, wvB m Y]
noncomputable def z3 (c : Cd) : Res := jupto Tryz.prog tabL3 (atCut 23) 2000 (lwAt 7) (tmpsOf 372 (k10 c)) [codeB c false]
noncomputable def z4 (c : Cd) (n v u r C m : Int) (Y : Nat → Nat × Nat) : Res := jupto Tryz.prog tabL3 (atCut 22) 2000 (lwAt 11) (tmpsOf 372 (k15 c n v u r C)) [codeB c false, wvB m Y]
noncomputable def z5 (c : Cd) : Res := jupto Tryz.prog tabL3 (atCut 6) 4000 (lwAt 12) (tmpsOf 372 (k10 c)) [codeB c false]
noncomputable def z6 (c : Cd) : Res := jupto Tryz.prog tabL3 (atCut 2) 2000 (lwAt 28) (tmpsOf 372 (k10 c)) [codeB c false]
noncomputable def z7 (c : Cd) (C m : Int) (Y : Nat → Nat × Nat) (m1 : Int) (Y1 : Nat → Nat × Nat) : Res := jupto Tryz.prog tabL3 (atCut 99) 2000 (lwAt 32) (tmpsOf 372 (k39 C)) [codeB c false, wvB m Y, wvB m1 Y1]
end Go.Ax

/- append: the model does the same. -/
import Derived.Test.YtaboeibkmknocaaDoorAab
import Derived.Laws.Externs
import Derived.KernelRfl
namespace Go.Ax
open Go

section
variable {P : Program} {w : World} {σ : List (Nat × Nat)} {H : List AB}

theorem sub_toL (A : Cells) (off n : Nat) : (A.sub off n).toL = (A.toL.drop off).take n := by
  cases A <;> simp [Cells.sub, Cells.toL, List.map_take, List.map_drop]
theorem relL_alike {σ : List (Nat × Nat)} {l m : List AV} {c : List Value} (h : RelL σ l c) (ha : Alike l m) : RelL σ m c := by
  refine RelL.of_get (by rw [← ha.1]; exact h.length) fun j a x hj hx => ?_
  have hl : j < l.length := by
    rw [ha.1]
    rcases Nat.lt_or_ge j m.length with h' | h'
    · exact h'
    · rw [List.getElem?_eq_none h'] at hj; cases hj
  obtain ⟨y, hy, hr⟩ := h.get (List.getElem?_eq_getElem hl)
  rw [hy] at hx; cases hx
  rcases ha.2 j _ a (List.getElem?_eq_getElem hl) hj with e | e
  · rw [← e]; exact hr
  · rw [e]; exact hr.bare
theorem fitB_rel {P : Program} {e : TypeId} {σ : List (Nat × Nat)} {A B : Cells} {c : List Value} (h : RelL σ B.toL c) : RelL σ (fitB P e A B).toL c := by
  unfold fitB
  split
  · exact h
  · split
    · exact relL_alike h (mkCells_alike _ _)
    · exact h
theorem app_toL (A B : Cells) : (A.app B).toL = A.toL ++ B.toL := by
  cases A <;> cases B <;> simp only [Cells.app] <;> (try split) <;> (try rfl) <;> (try (rename_i h; subst h)) <;> simp [Cells.toL]

theorem grow_le (newLen : Nat) : ∀ (r c : Nat), c ≤ newLen + (newLen + 768) / 4 → Builtin.growBy newLen r c ≤ newLen + (newLen + 768) / 4
  | 0, c, h => h
  | r + 1, c, h => by
    simp only [Builtin.growBy]
    split
    · exact h
    · exact grow_le newLen r _ (by omega)
theorem next_le {newLen oldCap : Nat} (h : oldCap < newLen) : Builtin.nextslicecap newLen oldCap ≤ 2 * newLen + 1024 := by
  unfold Builtin.nextslicecap
  split
  · omega
  · split
    · omega
    · have := grow_le newLen 4 oldCap (by omega); omega

/-- What is read of the appended slice. -/
theorem slice_read {size n : Nat} {l : Bool} {x : AV} {rx : Value} {B : Cells} {nb : List Bool} (h : sliceCells H size x = some (l, B, n, nb)) (hnb : allT nb = true) (s : Sim σ H w) (hx : Rel σ x rx) :
    ∃ cs : List Value, (∀ w', w'.heap = w.heap → (Builtin.firstCells size n rx).run P w' = .ok cs.toArray w') ∧ RelL σ B.toL cs ∧ cs.length = n * size ∧ (Builtin.lenOf rx).run P w = .ok n w := by
  unfold sliceCells at h
  split at h <;> try (cases h; done)
  · rename_i l id off n z
    split at h <;> try (cases h; done)
    rename_i r A hg
    split at h <;> cases h
    rename_i hc
    have hc := of_decide_eq_true (chk_spec hc hnb)
    cases hx with
    | @slz _ _ _ ad _ =>
      refine ⟨[], fun w' _ => by cases ad <;> simp [Builtin.firstCells, loadCells, loadCellsFrom], ?_, by simp, by simp [Builtin.lenOf]⟩
      rw [Nat.zero_mul] at hc ⊢
      rw [sub_toL]
      simpa using RelL.nil
    | sl hid hcap hz =>
    rename_i cap b c
    have key : ∀ w', w'.heap = w.heap → Sim σ H w' := fun w' hw => ⟨s.len, fun i b z hb => by rw [hw]; exact s.blk i b z hb, s.inj, s.base.heap hw⟩
    obtain ⟨cs, h1, h2, h3⟩ := s.cellsList (P := P) hid hg hc
    refine ⟨cs, fun w' hw => ?_, ?_, h3, by simp [Builtin.lenOf]⟩
    · obtain ⟨cs', h1', h2', h3'⟩ := (key w' hw).cellsList (P := P) hid hg hc
      have hcell : ∀ a, w'.cell? a = w.cell? a := fun a => by simp [World.cell?, hw]
      have : cs' = cs := by
        have e : ∀ (k : Nat) (acc : Array Value) (i : Nat) (r : Array Value), (loadCellsFrom ⟨b, off, none⟩ i k acc).run P w = .ok r w → (∀ j, j < k → ∃ v, w.cell? ⟨b, off + (i + j), none⟩ = some v) → (loadCellsFrom ⟨b, off, none⟩ i k acc).run P w' = .ok r w' := by
          intro k
          induction k with
          | zero => intro acc i r h _; simp [loadCellsFrom] at h ⊢; exact h
          | succ k ih =>
            intro acc i r h hj
            obtain ⟨v, hv⟩ := hj 0 (by omega)
            simp only [Nat.add_zero] at hv
            simp only [loadCellsFrom, Sem.run_bind, run_load, addr_add, hv, Result.andThen_ok] at h
            simp only [loadCellsFrom, Sem.run_bind, run_load, addr_add, hcell, hv, Result.andThen_ok]
            exact ih _ _ _ h (fun j hj' => by have := hj (j + 1) (by omega); rwa [show i + (j + 1) = i + 1 + j by omega] at this)
        have := e (n * size) #[] 0 cs.toArray h1 (fun j hj => by
          obtain ⟨v, hv, _⟩ := s.cell hid hg (Cells.get_some (show off + j < A.len by omega))
          exact ⟨v, by simpa using hv⟩)
        rw [show loadCellsFrom ⟨b, off, none⟩ 0 (n * size) #[] = loadCells ⟨b, off, none⟩ (n * size) from rfl, h1'] at this
        cases this
        rfl
      subst this
      simpa [Builtin.firstCells] using h1'
    · rw [sub_toL, ← Cells.range_eq hc]; exact h2
  · cases h; cases hx
    exact ⟨[], fun w' _ => by simp [Builtin.firstCells], .nil, by simp, by simp [Builtin.lenOf]⟩
  · cases h; cases hx
    exact ⟨[], fun w' _ => by simp [Builtin.firstCells, loadCells, loadCellsFrom], .nil, by simp, by simp [Builtin.lenOf]⟩

theorem relA_more {l : List AV} {cs : List Value} {rest : Array Value} (h : RelL σ l cs) : RelA σ l (cs.toArray ++ rest) := fun j a ha => by
  obtain ⟨x, hx, hr⟩ := h.get ha
  have hj : j < cs.length := by
    rcases Nat.lt_or_ge j cs.length with h' | h'
    · exact h'
    · rw [List.getElem?_eq_none h'] at hx; cases hx
  exact ⟨x, by rw [Array.getElem?_append_left (by simpa using hj)]; simpa using hx, hr⟩

/-- A block that is looked at no more. -/
theorem Sim.kill (s : Sim σ H w) (id : Nat) : Sim σ (setB H id .dead) w := by
  have hg : ∀ i, getB (setB H id .dead) i = .dead ∨ (i ≠ id ∧ getB (setB H id .dead) i = getB H i) := fun i => by
    by_cases h : id = i
    · subst h
      rcases Nat.lt_or_ge id H.length with h' | h'
      · exact .inl (getB_setB_same h')
      · exact .inl (getB_none (by rw [setB_length]; exact h'))
    · exact .inr ⟨Ne.symm h, getB_setB_ne h⟩
  refine ⟨by rw [setB_length]; exact s.len, fun i b z hb => ?_, fun i j b z z' hi hj hr hl => ?_, s.base.rw' (fun i hr => (hg i).elim (fun h => by rw [h] at hr; cases hr) (fun h => by rw [h.2] at hr; exact hr))⟩
  · rcases hg i with h | ⟨_, h⟩
    · rw [h]; trivial
    · rw [h]; exact s.blk i b z hb
  · rcases hg i with h | ⟨_, h⟩
    · rw [h] at hr; cases hr
    · rcases hg j with h' | ⟨_, h'⟩
      · rw [h'] at hl; cases hl
      · rw [h] at hr; rw [h'] at hl
        exact s.inj i j b z z' hi hj hr hl
theorem Fr.kill (σ : List (Nat × Nat)) (H : List AB) (w : World) (id : Nat) : Fr σ H w σ (setB H id .dead) w := by
  refine ⟨rfl, rfl, rfl, Nat.le_refl _, fun _ _ _ => rfl, Ext.refl _, fun i b z h h' => (by rw [h'] at h; cases h), fun i _ h => ?_⟩
  by_cases hi : id = i
  · subst hi
    rcases Nat.lt_or_ge id H.length with h' | h'
    · rw [getB_setB_same h'] at h; cases h
    · rw [getB_none (by rw [setB_length]; exact h')] at h; cases h
  · rwa [getB_setB_ne hi] at h

/-- Cells stored one behind the other into a block that is told whole. -/
theorem storeCells_raw {b : Nat} {e : TypeId} {fr : Nat × Nat} (hfr : ∀ j, ¬ (fr.1 ≤ j ∧ j < fr.2)) : ∀ {vs : List Value} (off i : Nat) {w : World} {c : Array Value}, w.heap[b]? = some (.cells c e fr) →
    (∀ v ∈ vs, v.oneCell' = true) → off + i + vs.length ≤ c.size →
    ∃ w' c', (storeCells ⟨b, off, none⟩ vs i).run P w = .ok () w' ∧ w'.heap[b]? = some (.cells c' e fr) ∧ c'.size = c.size ∧ w'.os = w.os ∧ w'.tape = w.tape ∧ w'.output = w.output ∧ w'.heap.size = w.heap.size ∧
      (∀ b', b' ≠ b → w'.heap[b']? = w.heap[b']?) ∧ (∀ j, j < off + i → c'[j]? = c[j]?) ∧ (∀ j, j < vs.length → c'[off + i + j]? = vs[j]?)
  | [], off, i, w, c, hw, _, _ => ⟨w, c, by simp [storeCells], hw, rfl, rfl, rfl, rfl, rfl, fun _ _ => rfl, fun _ _ => rfl, fun j hj => by simp at hj⟩
  | v :: vs, off, i, w, c, hw, hv, hb => by
    simp only [List.length_cons] at hb
    have hlt : off + i < c.size := by omega
    have hcell : w.cell? ⟨b, off + i, none⟩ = some c[off + i] := by simp [World.cell?, hw, hlt]
    have hnf : w.frozen? ⟨b, off + i, none⟩ = false := by
      simp only [World.frozen?, hw]
      rw [Bool.eq_false_iff]; intro hh; exact hfr (off + i) (by simpa using hh)
    have hst : (store ((⟨b, off, none⟩ : Addr).add i) v).run P w = .ok () (w.setCell ⟨b, off + i, none⟩ v) := by
      rw [addr_add, run_store P w _ v .plain (hv v (by simp)), hcell]
      simp [hnf]
    have hw1 : (w.setCell ⟨b, off + i, none⟩ v).heap[b]? = some (.cells (c.setIfInBounds (off + i) v) e fr) := by
      simp only [World.setCell, Array.getElem?_modify, if_true, hw, Option.map_some]; rfl
    obtain ⟨w', c', h1, h2, h3, h4, h5, h6, h7, h8, h9, h10⟩ := storeCells_raw hfr (vs := vs) off (i + 1) hw1 (fun x hx => hv x (by simp [hx])) (by simp; omega)
    refine ⟨w', c', by simp only [storeCells, Sem.run_bind, hst, Result.andThen_ok]; exact h1, h2, by simpa using h3, h4, h5, h6, by simpa using h7, fun b' hb' => ?_, fun j hj => ?_, fun j hj => ?_⟩
    · rw [h8 b' hb', heap_setCell_other w ⟨b, off + i, none⟩ b' v hb']
    · rw [h9 j (by omega)]; simp [show off + i ≠ j by omega]
    · cases j with
      | zero => rw [h9 (off + i + 0) (by omega)]; simp [hlt]
      | succ j =>
        have := h10 j (by simpa using hj)
        rw [show off + i + (j + 1) = off + (i + 1) + j by omega, this]
        simp

theorem allCell_spec {l : List AV} {cs : List Value} (h : allCell l = true) (hr : RelL σ l cs) : ∀ v ∈ cs, v.oneCell' = true := by
  induction l generalizing cs with
  | nil => cases hr; simp
  | cons a l ih =>
    cases hr with | cons h1 h2 =>
    simp only [allCell, Bool.and_eq_true] at h
    intro v hv
    simp at hv
    rcases hv with rfl | hv
    · exact okCell_one h1 h.1
    · exact ih h.2 h2 v hv
theorem allCell_map {α : Type} (g : α → AV) (hg : ∀ x, okCell (g x) = true) : ∀ (l : List α), allCell (l.map g) = true
  | [] => rfl
  | x :: l => by simp [allCell, hg x, allCell_map g hg l]
theorem okAll_spec {B : Cells} {cs : List Value} (h : B.okAll = true) (hr : RelL σ B.toL cs) : ∀ v ∈ cs, v.oneCell' = true := by
  have key : allCell B.toL = true := by
    cases B with
    | lit l => exact h
    | f32 xs => exact allCell_map _ (fun _ => rfl) _
    | c64 xs => exact allCell_map _ (fun _ => rfl) _
    | ints k xs => exact allCell_map _ (fun _ => rfl) _
    | strs xs => exact allCell_map _ (fun _ => rfl) _
  exact allCell_spec key hr

/-- append that makes a new array. -/
theorem append_grow {ts : Array TypeId} {ty t t' e e' : TypeId} {i : TypeInfo} {z : AV} {rx : Value} {base : Option Addr} {m cap n : Nat} {olds news : List Value}
    (ht : ts[0]? = some t) (ht' : ts[1]? = some t') (hu : P.underlying t = some (.slice e)) (hu' : P.underlying t' = some (.slice e')) (hi : P.info? e = some i) (hz : zeroA P e = some z) (hzs : (cellsA z).length = i.size) (hb : 0 < i.bytes)
    (hlen : (Builtin.lenOf rx).run P w = .ok n w) (hnew : ∀ w', w'.heap = w.heap → (Builtin.firstCells i.size n rx).run P w' = .ok news.toArray w')
    (hold : ∀ w', w'.heap = w.heap → (Builtin.firstCells i.size m (.slice base m cap)).run P w' = .ok olds.toArray w') (hol : olds.length = m * i.size) (hnl : news.length = n * i.size)
    (hgt : cap < m + n) (hroom : (2 * (m + n) + 1024) * i.bytes ≤ 2 ^ 48) :
    ∃ newCap rest, m + n ≤ newCap ∧ (olds.toArray ++ news.toArray ++ rest : Array Value).size = newCap * i.size ∧
      (Builtin.append_ ts ty #[.slice base m cap, rx]).run P w = .ok (.slice (some ⟨w.heap.size, 0, none⟩) (m + n) newCap) ({ w with drawn := w.drawn + 1 }.alloc (.cells (olds.toArray ++ news.toArray ++ rest) e)) := by
  obtain ⟨zv, hzr, hzrel, i', hi', hiz⟩ := zeroA_run (w := { w with drawn := w.drawn + 1 }) (σ := []) hz
  have hzl : zv.cells.size = i.size := by
    have := (cellsA_rel hzrel (zeroA_not hz)).length
    simp only [Array.length_toList] at this
    omega
  have hle := next_le hgt
  have hb1 : Builtin.nextslicecap (m + n) cap * i.bytes ≤ 2 ^ 48 := Nat.le_trans (Nat.mul_le_mul_right _ hle) hroom
  have hn1 : m + n ≤ 2 ^ 48 := by
    have : (2 * (m + n) + 1024) * 1 ≤ (2 * (m + n) + 1024) * i.bytes := Nat.mul_le_mul_left _ hb
    omega
  refine ⟨(m + n) + (w.tape w.drawn (.appendCap (m + n) cap e)) % (2 ^ 63 - (m + n)), Builtin.zeroCells zv.cells ((m + n) + (w.tape w.drawn (.appendCap (m + n) cap e)) % (2 ^ 63 - (m + n)) - (m + n)), Nat.le_add_right _ _, ?_, ?_⟩
  rotate_left
  · unfold Builtin.append_
    simp only [List.getElem?_toArray, List.getElem?_cons_zero, List.getElem?_cons_succ, ht, ht', Sem.run_bind, run_underlyingA hu, run_underlyingA hu', Result.andThen_ok, Sem.run_pure]
    simp only [show (sizeOf e).run P w = .ok i.size w by simp [sizeOf, run_typeInfoA hi], Result.andThen_ok, Bool.false_eq_true, if_false]
    rw [Sem.run_bind, hlen]
    simp only [Result.andThen_ok]
    rw [if_neg (by omega)]
    rw [Sem.run_bind, run_typeInfoA hi]
    simp only [Result.andThen_ok]
    rw [if_neg (by simp; omega)]
    rw [Sem.run_bind, run_typeInfoA hi]
    simp only [Result.andThen_ok]
    rw [if_neg (by omega)]
    have hnf : (Question.appendCap (m + n) cap e).forced = false := rfl
    rw [Sem.run_bind, run_choose, hnf]
    simp only [Bool.false_eq_true, if_false, Result.andThen_ok, Sem.run_bind, run_typeInfoA hi, run_askRoom, hold { w with drawn := w.drawn + 1 } rfl, Bool.not_false, if_true, hnew { w with drawn := w.drawn + 1 } rfl, hzr, newRow, run_newObj, Sem.run_pure]
    rfl
  · simp only [Array.size_append, List.size_toArray, hol, hnl, Builtin.zeroCells, Array.size_map, Array.size_range, hzl]
    generalize (w.tape w.drawn (.appendCap (m + n) cap e)) % (2 ^ 63 - (m + n)) = r
    rw [show m + n + r - (m + n) = r by omega, ← Nat.add_mul, ← Nat.add_mul]

/-- append in place. -/
theorem append_place {ts : Array TypeId} {ty t t' e e' : TypeId} {i : TypeInfo} {rx : Value} {b off m cap n : Nat} {news : List Value} {w' : World}
    (ht : ts[0]? = some t) (ht' : ts[1]? = some t') (hu : P.underlying t = some (.slice e)) (hu' : P.underlying t' = some (.slice e')) (hi : P.info? e = some i)
    (hlen : (Builtin.lenOf rx).run P w = .ok n w) (hnew : (Builtin.firstCells i.size n rx).run P w = .ok news.toArray w) (hle : m + n ≤ cap)
    (hst : (storeCells ⟨b, off + m * i.size, none⟩ news 0).run P w = .ok () w') :
    (Builtin.append_ ts ty #[.slice (some ⟨b, off, none⟩) m cap, rx]).run P w = .ok (.slice (some ⟨b, off, none⟩) (m + n) cap) w' := by
  unfold Builtin.append_
  simp only [List.getElem?_toArray, List.getElem?_cons_zero, List.getElem?_cons_succ, ht, ht', Sem.run_bind, run_underlyingA hu, run_underlyingA hu', Result.andThen_ok, Sem.run_pure]
  simp only [show (sizeOf e).run P w = .ok i.size w by simp [sizeOf, run_typeInfoA hi], Result.andThen_ok, Bool.false_eq_true, if_false]
  rw [Sem.run_bind, hlen]
  simp only [Result.andThen_ok]
  rw [if_pos hle]
  simp only [Bool.not_false, if_true, Sem.run_bind, hnew, Result.andThen_ok, addr_add, hst, Sem.run_pure]

theorem append_out {ts : Array TypeId} {ty : TypeId} {args : List AV} {rargs : Array Value} {v : AV} {H' : List AB} {nd : List Bool} (h : aAppend P ts args H = some (v, H', nd)) (hnd : allT nd = true) (s : Sim σ H w) (hr : RelL σ args rargs.toList) :
    ∃ rv w', (Builtin.append_ ts ty rargs).run P w = .ok rv w' ∧ Out σ H w v H' rv w' := by
  unfold aAppend at h
  split at h <;> try (cases h; done)
  rename_i t t' sv x ht ht'
  obtain ⟨rs, rx, hra, hs, hx⟩ := relL_two hr
  have hra' : rargs = #[rs, rx] := by rw [← Array.toArray_toList (xs := rargs), hra]
  subst hra'
  split at h <;> try (cases h; done)
  rename_i e e' hu hu'
  split at h <;> try (cases h; done)
  rename_i i hi
  split at h <;> try (cases h; done)
  rename_i lx B n nb hfit hsc
  split at h <;> try (cases h; done)
  rename_i hokall
  simp only [Bool.and_eq_true, decide_eq_true_eq] at hfit
  obtain ⟨⟨hfit, hbytes⟩, hsize0⟩ := hfit
  obtain ⟨z, hz, hzs⟩ : ∃ z, zeroA P e = some z ∧ (cellsA z).length = i.size := by
    unfold zeroFits at hfit
    cases hz : zeroA P e with
    | none => rw [hz] at hfit; cases hfit
    | some z => rw [hz] at hfit; exact ⟨z, rfl, by simpa using hfit⟩
  have growN : ∀ {v : AV} {H' : List AB} {A : Cells} {nb0 : List Bool}, (v, H') = (.sl lx H.length 0 n i.size, H ++ [.cells true A]) → Alike B.toL A.toL → rs = .slice none 0 0 ∨ (∃ a, rs = .slice (some a) 0 0) →
      0 < n → (2 * n + 1024) * i.bytes ≤ 2 ^ 48 → allT nb = true → ∃ rv w', (Builtin.append_ ts ty #[rs, rx]).run P w = .ok rv w' ∧ Out σ H w v H' rv w' := by
    intro v H' A _ hv hal hrs hn0 hroom hnb
    cases hv
    obtain ⟨cs, hc1, hc2, hc3, hc4⟩ := slice_read (P := P) hsc hnb s hx
    obtain ⟨base, rfl, hb0⟩ : ∃ base, rs = .slice base 0 0 ∧ ∀ w', (Builtin.firstCells i.size 0 (.slice base 0 0)).run P w' = .ok ([] : List Value).toArray w' := by
      rcases hrs with rfl | ⟨a, rfl⟩
      · exact ⟨none, rfl, fun w' => by simp [Builtin.firstCells]⟩
      · exact ⟨some a, rfl, fun w' => by simp [Builtin.firstCells, loadCells, loadCellsFrom]⟩
    obtain ⟨nc, rest, g1, g2, g3⟩ := append_grow (ty := ty) (m := 0) (cap := 0) ht ht' hu hu' hi hz hzs hbytes hc4 hc1 (fun w' _ => hb0 w') (by simp) hc3 (by omega) (by simpa using hroom)
    have sd : Sim σ H { w with drawn := w.drawn + 1 } := (Same.drew w).sim s
    have fd : Fr σ H w σ H { w with drawn := w.drawn + 1 } := (Same.drew w).fr
    have hrel : RelA σ A.toL (([] : List Value).toArray ++ cs.toArray ++ rest) := by
      have : RelA σ B.toL (([] : List Value).toArray ++ cs.toArray ++ rest) := by
        have := relA_more (rest := rest) hc2
        simpa using this
      exact relA_alike this hal
    obtain ⟨σ', o1, o2, o3⟩ := new_out (l := lx) (len := 0 + n) (cap := nc) (z := i.size) (e := e) sd hrel g1 (by rw [g2]; exact Nat.le_refl _)
    rw [Nat.zero_add] at o1 g3
    exact ⟨_, _, g3, σ', o1, o2, fd.trans o3⟩
  split at h <;> try (cases h; done)
  · -- onto nil
    cases hs
    split at h
    · rename_i hlx
      cases h
      obtain ⟨cs, hc1, hc2, hc3, hc4⟩ := slice_read (P := P) hsc hnd s hx
      refine ⟨.slice none 0 0, w, ?_, σ, .slnil, s, Fr.refl _ _ _⟩
      have hcs : cs = [] := List.length_eq_zero_iff.1 (by simpa using hc3)
      unfold Builtin.append_
      simp only [List.getElem?_toArray, List.getElem?_cons_zero, List.getElem?_cons_succ, ht, ht', Sem.run_bind, run_underlyingA hu, run_underlyingA hu', Result.andThen_ok, Sem.run_pure]
      simp only [show (sizeOf e).run P w = .ok i.size w by simp [sizeOf, run_typeInfoA hi], Result.andThen_ok, Bool.false_eq_true, if_false]
      rw [Sem.run_bind, hc4]
      simp only [Result.andThen_ok]
      rw [if_pos (by omega)]
      simp only [Bool.not_false, if_true, Sem.run_bind, hc1 w rfl, Result.andThen_ok, Sem.run_pure]
    · obtain ⟨rfl, rfl, hnb, k, hc, hm⟩ := consN_some h hnd
      have hc := chk_spec hc hm
      simp only [Bool.and_eq_true, decide_eq_true_eq] at hc
      exact growN (nb0 := []) rfl (mkCells_alike e _) (.inl rfl) hc.1 hc.2 hnb
  · cases hs
    rename_i a
    split at h
    · cases h
      obtain ⟨cs, hc1, hc2, hc3, hc4⟩ := slice_read (P := P) hsc hnd s hx
      have hcs : cs = [] := List.length_eq_zero_iff.1 (by simpa using hc3)
      subst hcs
      have ha := append_place (P := P) (ty := ty) (b := a.block) (off := a.off) (m := 0) (cap := 0) (n := 0) (news := []) (w := w) (w' := w) ht ht' hu hu' hi hc4 (hc1 w rfl) (by omega) (by simp [storeCells])
      refine ⟨.slice (some a) 0 0, w, ?_, σ, .sle, s, Fr.refl _ _ _⟩
      unfold Builtin.append_
      simp only [List.getElem?_toArray, List.getElem?_cons_zero, List.getElem?_cons_succ, ht, ht', Sem.run_bind, run_underlyingA hu, run_underlyingA hu', Result.andThen_ok, Sem.run_pure]
      simp only [show (sizeOf e).run P w = .ok i.size w by simp [sizeOf, run_typeInfoA hi], Result.andThen_ok, Bool.false_eq_true, if_false]
      rw [Sem.run_bind, hc4]
      simp only [Result.andThen_ok]
      rw [if_pos (by omega)]
      simp only [Bool.not_false, if_true, Sem.run_bind, hc1 w rfl, Result.andThen_ok, Sem.run_pure, storeCells]
    · obtain ⟨rfl, rfl, hnb, k, hc, hm⟩ := consN_some h hnd
      have hc := chk_spec hc hm
      simp only [Bool.and_eq_true, decide_eq_true_eq] at hc
      exact growN (nb0 := []) rfl (Alike.rfl' _) (.inr ⟨a, rfl⟩) hc.1 hc.2 hnb
  · rename_i l id off m zz
    split at h <;> try (cases h; done)
    rename_i A hg
    split at h <;> try (cases h; done)
    rename_i hne
    obtain ⟨rfl, rfl, hnb, k, hc, hm⟩ := consN_some h hnd
    have hc := chk_spec hc hm
    simp only [Bool.and_eq_true, decide_eq_true_eq] at hc
    obtain ⟨⟨⟨rfl, hzz⟩, hmA⟩, hroom⟩ := hc
    cases hs with
    | slz => omega
    | sl hid hcap hz' =>
    subst hzz
    rename_i cap b c
    have hidl : id < H.length := by rw [← s.len]; exact isSome_lt hid
    obtain ⟨cs, hc1, hc2, hc3, hc4⟩ := slice_read (P := P) hsc hnb s hx
    have hf : RelL σ (fitB P e A B).toL cs := fitB_rel hc2
    generalize fitB P e A B = B1 at hf ⊢
    have htoL : ((A.sub 0 (m * i.size)).app B1).toL = A.toL ++ B1.toL := by
      rw [app_toL, sub_toL, List.drop_zero, List.take_of_length_le (by rw [Cells.len_eq]; omega)]
    by_cases hle : m + n ≤ cap
    · -- in place
      have h0 := s.blk id b c hid
      rw [hg] at h0
      obtain ⟨cc, e0, fr, hw, hA, hcs, hfr⟩ := h0
      have hroom2 : m * i.size + n * i.size ≤ cc.size := by
        rw [hcs, ← Nat.add_mul]
        have : (m + n) * i.size ≤ cap * i.size := Nat.mul_le_mul_right _ hle
        omega
      obtain ⟨w', c', k1, k2, k3, k4, k5, k6, k7, k8, k9, k10⟩ := storeCells_raw (P := P) (hfr rfl) (vs := cs) (m * i.size) 0 hw (okAll_spec hokall hc2) (by omega)
      have hrun := append_place (P := P) (ty := ty) (off := 0) (m := m) (cap := cap) ht ht' hu hu' hi hc4 (hc1 w rfl) hle (by rw [Nat.zero_add]; exact k1)
      have hrelA : RelA σ ((A.sub 0 (m * i.size)).app B1).toL c' := by
        rw [htoL]
        intro j a ha
        rcases Nat.lt_or_ge j A.toL.length with hj | hj
        · rw [List.getElem?_append_left hj] at ha
          obtain ⟨y, hy, hry⟩ := hA j a ha
          rw [Cells.len_eq] at hj
          exact ⟨y, by rw [k9 j (by omega)]; exact hy, hry⟩
        · rw [List.getElem?_append_right hj] at ha
          obtain ⟨y, hy, hry⟩ := hf.get ha
          rw [Cells.len_eq] at hj hy
          have hjl : j - A.len < cs.length := by
            rcases Nat.lt_or_ge (j - A.len) cs.length with h' | h'
            · exact h'
            · rw [List.getElem?_eq_none h'] at hy; cases hy
          have := k10 (j - A.len) hjl
          rw [show m * i.size + 0 + (j - A.len) = j by omega] at this
          exact ⟨y, by rw [this]; exact hy, hry⟩
      have hgN : ∀ q, getB (setB H id .dead ++ [.cells true ((A.sub 0 (m * i.size)).app B1)]) q = if q = H.length then .cells true ((A.sub 0 (m * i.size)).app B1) else if q = id then .dead else getB H q := by
        intro q
        by_cases hq : q = H.length
        · rw [if_pos hq, hq, getB_append_right (by rw [setB_length]; exact Nat.le_refl _), setB_length, Nat.sub_self]; rfl
        · rw [if_neg hq]
          rcases Nat.lt_or_ge q H.length with h' | h'
          · rw [getB_append_left (by rw [setB_length]; exact h')]
            by_cases hqi : q = id
            · rw [if_pos hqi, hqi]; exact getB_setB_same hidl
            · rw [if_neg hqi]; exact getB_setB_ne (Ne.symm hqi)
          · rw [getB_none (by simp [setB_length]; omega), if_neg (by omega), getB_none h']
      refine ⟨_, w', hrun, σ ++ [(b, c)], ?_, sim_fr s (by simp [setB_length, s.len]) (fun q bq zq hq => ?_) (fun p q bq z1 z2 hp hq hrw hlive => ?_) ⟨k4, k5, k6, by omega, fun b' hb' hno => ?_, Ext.append _ _, fun q bq zq hq hn => ?_, fun q hq hrw => ?_⟩⟩
      · refine .sl (b := b) (c := c) (by rw [← s.len]; simp) hle ?_
        exact hz'
      · rw [hgN]
        rcases snoc_cases hq with ⟨hql, hq'⟩ | ⟨rfl, hq'⟩
        · rw [s.len] at hql
          rw [if_neg (by omega)]
          by_cases hqi : q = id
          · rw [if_pos hqi]; trivial
          · rw [if_neg hqi]
            have hb2 := (s.blk q bq zq hq').mono (Ext.append σ [(b, c)])
            cases hgq : getB H q with
            | dead => trivial
            | cells r C =>
              have hne' : bq ≠ b := fun e => hqi (s.inj id q b c zq hid (by rw [← e]; exact hq') (by rw [hg]; rfl) (by rw [hgq]; rfl)).symm
              rw [k8 bq hne', ← hgq]; exact hb2
            | code o0 xs0 =>
              have hne' : bq ≠ b := fun e => hqi (s.inj id q b c zq hid (by rw [← e]; exact hq') (by rw [hg]; rfl) (by rw [hgq]; rfl)).symm
              rw [k8 bq hne', ← hgq]; exact hb2
        · cases hq'
          rw [if_pos s.len]
          exact ⟨c', e0, fr, k2, hrelA.mono (Ext.append _ _), by omega, hfr⟩
      · rw [hgN] at hrw hlive
        rcases snoc_cases hp with ⟨hpl, hp'⟩ | ⟨rfl, hp'⟩ <;> rcases snoc_cases hq with ⟨hql, hq'⟩ | ⟨rfl, hq'⟩
        · rw [s.len] at hpl hql
          rw [if_neg (by omega)] at hrw hlive
          by_cases hpi : p = id
          · rw [if_pos hpi] at hrw; cases hrw
          · by_cases hqi : q = id
            · rw [if_pos hqi] at hlive; cases hlive
            · rw [if_neg hpi] at hrw; rw [if_neg hqi] at hlive
              exact s.inj p q bq z1 z2 hp' hq' hrw hlive
        · cases hq'
          rw [s.len] at hpl
          rw [if_neg (by omega)] at hrw
          by_cases hpi : p = id
          · rw [if_pos hpi] at hrw; cases hrw
          · rw [if_neg hpi] at hrw
            exact absurd (s.inj p id b z1 c hp' hid hrw (by rw [hg]; rfl)) hpi
        · cases hp'
          rw [s.len] at hql
          rw [if_neg (by omega)] at hlive
          by_cases hqi : q = id
          · rw [if_pos hqi] at hlive; cases hlive
          · rw [if_neg hqi] at hlive
            exact absurd (s.inj id q b c z2 hid hq' (by rw [hg]; rfl) hlive).symm hqi
        · rfl
      · exact k8 b' (fun e => hno id c (by rw [hg]; rfl) (by rw [hid, e]))
      · rcases snoc_cases hq with ⟨hql, hq'⟩ | ⟨rfl, hq'⟩
        · rw [hn] at hq'; cases hq'
        · cases hq'; exact .inr ⟨id, c, by rw [hg]; rfl, hid⟩
      · rw [hgN, if_neg (by rw [← s.len]; omega)] at hrw
        by_cases hqi : q = id
        · rw [if_pos hqi] at hrw; cases hrw
        · rwa [if_neg hqi] at hrw
    · -- a new array
      have hch : ∃ nd, chk (l && A.isLit) (decide (0 + m * i.size ≤ A.len)) = some nd ∧ allT nd = true := by
        rw [decide_eq_true (by omega)]
        cases (l && A.isLit)
        · exact ⟨_, rfl, rfl⟩
        · exact ⟨_, rfl, rfl⟩
      obtain ⟨nd0, hch1, hch2⟩ := hch
      have hsc0 : sliceCells H i.size (.sl l id 0 m i.size) = some (l, A.sub 0 (m * i.size), m, nd0) := by
        simp only [sliceCells, hg, hch1]
      obtain ⟨olds, hold, hol, holn, _⟩ := slice_read (P := P) hsc0 hch2 s (Rel.sl hid hcap hz')
      obtain ⟨nc, rest, g1, g2, g3⟩ := append_grow (ty := ty) (m := m) (cap := cap) ht ht' hu hu' hi hz hzs hbytes hc4 hc1 hold holn hc3 (by omega) hroom
      have sd : Sim σ (setB H id .dead) { w with drawn := w.drawn + 1 } := ((Same.drew w).sim s).kill id
      have fd : Fr σ H w σ (setB H id .dead) { w with drawn := w.drawn + 1 } := (Same.drew w).fr.trans (Fr.kill σ H _ id)
      have hrel : RelA σ ((A.sub 0 (m * i.size)).app B1).toL (olds.toArray ++ cs.toArray ++ rest) := by
        rw [app_toL]
        have := relA_more (rest := rest) (hol.append hf)
        simpa using this
      obtain ⟨σ', o1, o2, o3⟩ := new_out (l := l && lx) (len := m + n) (cap := nc) (z := i.size) (e := e) sd hrel g1 (by rw [g2]; exact Nat.le_refl _)
      rw [setB_length] at o1
      exact ⟨_, _, g3, σ', o1, o2, fd.trans o3⟩
end
end Go.Ax

/- Regions: in the text's order, and in whatever order. -/
namespace Go.Ax
open Go

theorem RelL.getD {σ : List (Nat × Nat)} {t : List AV} {tm : Array Value} (h : RelL σ t tm.toList) (n : Nat) : Rel σ (getL t n) (tm.getD n undef) := by
  rcases Nat.lt_or_ge n t.length with hn | hn
  · obtain ⟨x, hx, hr⟩ := h.get (getL_some hn)
    have : tm.getD n undef = x := by
      have hx' : tm[n]? = some x := by simpa using hx
      rw [Array.getD_eq_getD_getElem?, hx']; rfl
    rw [this]; exact hr
  · rw [getL_none hn]
    have hl := h.length
    have : tm.getD n undef = undef := by
      have : tm[n]? = none := by rw [Array.getElem?_eq_none]; simp at hl; omega
      rw [Array.getD_eq_getD_getElem?, this]; rfl
    rw [this]; exact .tup .nil

theorem setL_length (l : List AV) (n : Nat) (v : AV) : (setL l n v).length = l.length := by rw [setL_eq]; simp
theorem putT_length (t : List AV) (d : Option Nat) (v : AV) : (putT t d v).length = t.length := by cases d <;> simp [putT, setL_length]
theorem getL_setL_same {l : List AV} {n : Nat} {v : AV} (h : n < l.length) : getL (setL l n v) n = v := by
  rw [getL_eq, setL_eq]; simp [h]
theorem getL_setL_ne {l : List AV} {n m : Nat} {v : AV} (h : n ≠ m) : getL (setL l n v) m = getL l m := by
  rw [getL_eq, setL_eq, getL_eq, List.getD_eq_getElem?_getD, List.getElem?_set_ne h, List.getD_eq_getElem?_getD]
theorem setL_self {l : List AV} {n : Nat} {v : AV} (h : getL l n = v) (hn : n < l.length) : setL l n v = l := by
  rw [setL_eq]
  apply List.ext_getElem?
  intro j
  by_cases hj : n = j
  · subst hj; rw [List.getElem?_set_self hn, getL_some hn, h]
  · rw [List.getElem?_set_ne hj]

theorem RelL.set {σ : List (Nat × Nat)} {t : List AV} {tm : Array Value} (h : RelL σ t tm.toList) {d : Nat} {v : AV} {rv : Value} (hv : Rel σ v rv) : RelL σ (setL t d v) (tm.setIfInBounds d rv).toList := by
  have hl := h.length
  refine RelL.of_get (by rw [setL_length]; simpa using hl) fun j a x ha hx => ?_
  rw [setL_eq] at ha
  simp only [Array.toList_setIfInBounds] at hx
  by_cases hj : d = j
  · subst hj
    have hd : d < t.length := by
      rcases Nat.lt_or_ge d t.length with h' | h'
      · exact h'
      · rw [List.getElem?_eq_none (by simpa using h')] at ha; cases ha
    rw [List.getElem?_set_self hd] at ha
    rw [List.getElem?_set_self (by rw [← hl]; exact hd)] at hx
    cases ha; cases hx; exact hv
  · rw [List.getElem?_set_ne hj] at ha hx
    obtain ⟨y, hy, hr⟩ := h.get ha
    rw [hy] at hx; cases hx; exact hr
theorem RelL.put {σ : List (Nat × Nat)} {t : List AV} {a : Act} (h : RelL σ t a.tmps.toList) {d : Option Nat} {v : AV} {rv : Value} (hv : Rel σ v rv) : RelL σ (putT t d v) (a.put d rv).tmps.toList := by
  cases d with
  | none => exact h
  | some d => exact h.set hv
theorem put_defers (a : Act) (d : Option Nat) (v : Value) : (a.put d v).defers = a.defers := by cases d <;> rfl

theorem evA_rel {σ : List (Nat × Nat)} {t : List AV} {a : Act} (h : RelL σ t a.tmps.toList) {x : Operand} (ok : okOpd x = true) : Rel σ (evA t x) (a.eval x) := by
  cases x with
  | tmp n => exact h.getD n
  | const v =>
    simp only [okOpd] at ok
    cases hv : ofV v with
    | none => rw [hv] at ok; cases ok
    | some b => simp only [evA, hv, Act.eval]; exact ofV_rel hv
  | global g => cases ok
  | func f => exact .fn .nil .nil

/-- One operation by its number, from a state to a state. -/
def OpOK (P : Program) (ops : Array Oper) (k : Nat) (t : List AV) (H : List AB) (t' : List AV) (H' : List AB) : Prop :=
  ∀ (σ : List (Nat × Nat)) (w : World) (a : Act) (Q : Exit → Act → World → Prop) (next : Act → World → Prop), Sim σ H w → RelL σ t a.tmps.toList →
    (∀ a' w' σ', RelL σ' t' a'.tmps.toList → a'.defers = a.defers → Sim σ' H' w' → Fr σ H w σ' H' w' → next a' w') → wpOp P ops Q k next a w
inductive Chain (P : Program) (ops : Array Oper) : Nat → List AV → List AB → Nat → List AV → List AB → Prop
  | nil {k : Nat} {t : List AV} {H : List AB} : Chain P ops k t H k t H
  | cons {k j : Nat} {t t1 t' : List AV} {H H1 H' : List AB} (h : OpOK P ops k t H t1 H1) (c : Chain P ops (k + 1) t1 H1 j t' H') : Chain P ops k t H j t' H'

theorem Chain.le {P : Program} {ops : Array Oper} {k j : Nat} {t t' : List AV} {H H' : List AB} (c : Chain P ops k t H j t' H') : k ≤ j := by
  induction c with
  | nil => exact Nat.le_refl _
  | cons _ _ ih => omega

/-- In the text's order. -/
theorem Chain.wpOps {P : Program} {ops : Array Oper} {k j : Nat} {t t' : List AV} {H H' : List AB} (c : Chain P ops k t H j t' H') :
    ∀ {σ : List (Nat × Nat)} {w : World} {a : Act} {Q : Exit → Act → World → Prop}, Sim σ H w → RelL σ t a.tmps.toList →
      (∀ a' w' σ', RelL σ' t' a'.tmps.toList → a'.defers = a.defers → Sim σ' H' w' → Fr σ H w σ' H' w' → Q .normal a' w') →
      wpOps P ops Q (List.range' k (j - k)) a w := by
  induction c with
  | nil =>
    intro σ w a Q s r q
    rw [Nat.sub_self]
    exact q a w σ r rfl s (Fr.refl _ _ _)
  | @cons k j t t1 t' H H1 H' h c ih =>
    intro σ w a Q s r q
    have hle := c.le
    have : j - k = (j - (k + 1)) + 1 := by omega
    rw [this, List.range'_succ, wpOps_cons]
    refine h σ w a Q _ s r fun a1 w1 σ1 r1 d1 s1 f1 => ?_
    exact ih s1 r1 fun a2 w2 σ2 r2 d2 s2 f2 => q a2 w2 σ2 r2 (d2.trans d1) s2 (f1.trans f2)

/-- One operation that leaves memory alone: its value. -/
def QVal (P : Program) (ops : Array Oper) (k : Nat) (t : List AV) (H : List AB) (v : AV) : Prop :=
  ∃ o, ops[k]? = some o ∧ ∀ (σ : List (Nat × Nat)) (w : World) (a : Act) (Q : Exit → Act → World → Prop) (next : Act → World → Prop), Sim σ H w →
    (∀ n ∈ looks ops o, Rel σ (getL t n) (a.tmps.getD n undef)) → a.tmps.size = t.length →
    (∀ rv w', Rel σ v rv → Sim σ H w' → Fr σ H w σ H w' → next (a.put o.dst rv) w') → wpOp P ops Q k next a w
inductive QChain (P : Program) (ops : Array Oper) (H : List AB) : Nat → List AV → Nat → List AV → Prop
  | nil {k : Nat} {t : List AV} : QChain P ops H k t k t
  | cons {k j : Nat} {t t' : List AV} {v : AV} (h : QVal P ops k t H v) (c : QChain P ops H (k + 1) (putT t (gDst ops k) v) j t') : QChain P ops H k t j t'

/-- The state behind operations k .. k + n - 1 whose values are told. -/
def stAt (ops : Array Oper) (val : Nat → AV) (t : List AV) : Nat → Nat → List AV
  | _, 0 => t
  | k, n + 1 => stAt ops val (putT t (gDst ops k) (val k)) (k + 1) n
theorem QChain.vals {P : Program} {ops : Array Oper} {H : List AB} {k j : Nat} {t t' : List AV} (c : QChain P ops H k t j t') :
    ∃ val : Nat → AV, k ≤ j ∧ t' = stAt ops val t k (j - k) ∧ ∀ i, k ≤ i → i < j → QVal P ops i (stAt ops val t k (i - k)) H (val i) := by
  induction c with
  | @nil k t => exact ⟨fun _ => .tup [], Nat.le_refl _, by rw [Nat.sub_self]; rfl, fun i h1 h2 => by omega⟩
  | @cons k j t t' v h c ih =>
    obtain ⟨val, hle, e1, e2⟩ := ih
    refine ⟨fun i => if i = k then v else val i, by omega, ?_, fun i h1 h2 => ?_⟩
    all_goals
      have hcongr : ∀ (n k' : Nat) (t : List AV), k < k' → stAt ops (fun i => if i = k then v else val i) t k' n = stAt ops val t k' n := by
        intro n
        induction n with
        | zero => intros; rfl
        | succ n ihn => intro k' t hk; simp only [stAt]; rw [if_neg (by omega)]; exact ihn _ _ (by omega)
    · have : j - k = (j - (k + 1)) + 1 := by omega
      rw [this, e1]
      simp only [stAt, if_true]
      exact (hcongr _ _ _ (by omega)).symm
    · by_cases hik : i = k
      · subst hik; rw [Nat.sub_self]; simpa [stAt] using h
      · have : i - k = (i - (k + 1)) + 1 := by omega
        rw [this]
        simp only [stAt, if_true, hik, if_false]
        rw [hcongr _ _ _ (by omega)]
        exact e2 i (by omega) h2
theorem stAt_length (ops : Array Oper) (val : Nat → AV) : ∀ (n k : Nat) (t : List AV), (stAt ops val t k n).length = t.length
  | 0, _, _ => rfl
  | n + 1, k, t => by simp only [stAt]; rw [stAt_length ops val n, putT_length]
theorem getL_putT_ne {t : List AV} {d : Option Nat} {v : AV} {x : Nat} (h : d ≠ some x) : getL (putT t d v) x = getL t x := by
  cases d with
  | none => rfl
  | some d => exact getL_setL_ne (fun e => h (by rw [e]))
theorem stAt_untouched (ops : Array Oper) (val : Nat → AV) {x : Nat} : ∀ (n k : Nat) (t : List AV), (∀ i, k ≤ i → i < k + n → gDst ops i ≠ some x) → getL (stAt ops val t k n) x = getL t x
  | 0, _, _, _ => rfl
  | n + 1, k, t, h => by
    simp only [stAt]
    rw [stAt_untouched ops val n (k + 1) _ (fun i h1 h2 => h i (by omega) (by omega)), getL_putT_ne (h k (by omega) (by omega))]
theorem stAt_val (ops : Array Oper) (val : Nat → AV) {x : Nat} : ∀ (n k : Nat) (t : List AV) (i : Nat), k ≤ i → i < k + n → gDst ops i = some x → x < t.length →
    (∀ i', k ≤ i' → i' < k + n → i' ≠ i → gDst ops i' ≠ some x) → getL (stAt ops val t k n) x = val i
  | 0, _, _, _, h1, h2, _, _, _ => by omega
  | n + 1, k, t, i, h1, h2, hd, hx, hu => by
    simp only [stAt]
    by_cases hik : i = k
    · subst hik
      rw [stAt_untouched ops val n (i + 1) _ (fun i' h1 h2 => hu i' (by omega) (by omega) (by omega)), hd]
      exact getL_setL_same hx
    · exact stAt_val ops val n (k + 1) _ i (by omega) (by omega) hd (by rw [putT_length]; exact hx) (fun i' h1 h2 h3 => hu i' (by omega) (by omega) h3)

/-! ### Whatever order -/
section
variable {ops : Array Oper} {m : Nat}
theorem drawOK_spec (h : drawOK ops m = true) : ∀ (j : Nat) (o : Oper), ops[j]? = some o →
    (∀ e ∈ o.after, Region.binds .any e = true → e.on < j) ∧
    (j < m → (∀ x ∈ looks ops o, ∀ i, i < m → gDst ops i = some x → aheadOf ops 10 j i = true) ∧ ∀ i, i < m → i ≠ j → ∀ d, o.dst = some d → gDst ops i ≠ some d) ∧
    (m ≤ j → ∀ k, k < j → aheadOf ops 10 j k = true) := by
  intro j o ho
  have hj : j < ops.size := by
    rcases Nat.lt_or_ge j ops.size with h' | h'
    · exact h'
    · simp [Array.getElem?_eq_none h'] at ho
  unfold drawOK at h
  simp only [List.all_eq_true, List.mem_range] at h
  have h1 := h j hj
  simp only [ho, Bool.and_eq_true] at h1
  obtain ⟨⟨h2, _⟩, h3⟩ := h1
  refine ⟨fun e he hb => ?_, fun hm => ?_, fun hm k hk => ?_⟩
  · rw [Array.all_eq_true'] at h2
    have := h2 e he
    simpa [hb] using this
  · rw [if_pos hm] at h3
    simp only [Bool.and_eq_true, List.all_eq_true, List.mem_range] at h3
    refine ⟨fun x hx i hi hd => ?_, fun i hi hne d hd hgd => ?_⟩
    · have := h3.1 x hx i hi
      simpa [hd] using this
    · have := h3.2 i hi
      simp [hne, hd, hgd] at this
  · rw [if_neg (by omega)] at h3
    simp only [List.all_eq_true, List.mem_range] at h3
    exact h3 k hk

def Ls (listed : Array Bool) (i : Nat) : Prop := listed.getD i false = true
theorem aheadOf_listed {listed : Array Bool} (hd : ∀ i o, ops[i]? = some o → Ls listed i → ∀ e ∈ o.after, Region.binds .any e = true → Ls listed e.on) :
    ∀ (n j k : Nat) (o : Oper), ops[j]? = some o → (∀ e ∈ o.after, Region.binds .any e = true → Ls listed e.on) → aheadOf ops n j k = true → Ls listed k
  | 0, _, _, _, _, _, h => by simp [aheadOf] at h
  | n + 1, j, k, o, ho, hall, h => by
    simp only [aheadOf, ho, Bool.or_eq_true, Array.any_eq_true'] at h
    rcases h with ⟨e, he, h⟩ | ⟨e, he, h⟩
    · simp only [Bool.and_eq_true, beq_iff_eq] at h
      obtain ⟨hb, rfl⟩ := h
      exact hall e he hb
    · simp only [Bool.and_eq_true] at h
      cases ho' : ops[e.on]? with
      | none => cases n <;> simp [aheadOf, ho'] at h
      | some o' => exact aheadOf_listed hd n e.on k o' ho' (hd e.on o' ho' (hall e he h.1)) h.2
end
end Go.Ax

/- Whatever order a region takes. -/
namespace Go.Ax
open Go

section
variable {P : Program} {ops : Array Oper} {m : Nat}

theorem getD_ft {listed : Array Bool} {i : Nat} (hi : i < listed.size) : listed.getD i true = listed.getD i false := by
  simp [Array.getD_eq_getD_getElem?, hi]
theorem Ls_set {listed : Array Bool} {j i : Nat} (hj : j < listed.size) : Ls (listed.setIfInBounds j true) i ↔ (i = j ∨ Ls listed i) := by
  unfold Ls
  by_cases h : j = i
  · subst h; simp [Array.getD_eq_getD_getElem?, hj]
  · simp [Array.getD_eq_getD_getElem?, Array.getElem?_setIfInBounds_ne h, Ne.symm h]

/-- Those that have not come up yet. -/
def left (ops : Array Oper) (listed : Array Bool) : List Nat := (List.range ops.size).filter fun i => !listed.getD i false
theorem mem_left {listed : Array Bool} {i : Nat} : i ∈ left ops listed ↔ i < ops.size ∧ ¬ Ls listed i := by
  simp [left, Ls]
theorem left_set {listed : Array Bool} {j : Nat} (hj : j < ops.size) (hsz : listed.size = ops.size) (hl : ¬ Ls listed j) :
    (left ops (listed.setIfInBounds j true)).length < (left ops listed).length := by
  have hsub : left ops (listed.setIfInBounds j true) = (left ops listed).filter (fun i => !(i == j)) := by
    unfold left
    rw [List.filter_filter]
    apply List.filter_congr
    intro i _
    have := Ls_set (listed := listed) (j := j) (i := i) (by omega)
    unfold Ls at this
    cases h1 : (listed.setIfInBounds j true).getD i false <;> cases h2 : listed.getD i false <;> simp [h1, h2] at this ⊢
    · exact this
    · exact this
  rw [hsub]
  have hmem : j ∈ left ops listed := mem_left.2 ⟨hj, hl⟩
  have := List.length_filter_lt_length_iff_exists (p := fun i => !(i == j)) (l := left ops listed)
  exact this.2 ⟨j, hmem, by simp⟩

theorem mem_ready' {listed : Array Bool} (hsz : listed.size = ops.size) {j : Nat} : j ∈ Region.ready .any ops listed ↔ ¬ Ls listed j ∧ ∃ o, ops[j]? = some o ∧ ∀ e ∈ o.after, Region.binds .any e = true → Ls listed e.on := by
  rw [mem_ready]
  constructor
  · rintro ⟨h1, o, ho, h2⟩
    have hj : j < listed.size := by rw [hsz]; exact (Array.getElem?_eq_some_iff.1 ho).1
    rw [getD_ft hj] at h1
    exact ⟨by simp [Ls, h1], o, ho, h2⟩
  · rintro ⟨h1, o, ho, h2⟩
    have hj : j < listed.size := by rw [hsz]; exact (Array.getElem?_eq_some_iff.1 ho).1
    refine ⟨?_, o, ho, h2⟩
    rw [getD_ft hj]
    simpa [Ls] using h1

/-- Someone may come up, as long as someone has not. -/
theorem ready_some (hok : drawOK ops m = true) {listed : Array Bool} (hsz : listed.size = ops.size) : ∀ (i : Nat), i < ops.size → ¬ Ls listed i → ∃ j, j ∈ Region.ready .any ops listed := by
  intro i
  induction i using Nat.strongRecOn with
  | _ i ih =>
    intro hi hl
    have ho : ops[i]? = some ops[i] := Array.getElem?_eq_getElem hi
    by_cases h : ∀ e ∈ ops[i].after, Region.binds .any e = true → Ls listed e.on
    · exact ⟨i, (mem_ready' hsz).2 ⟨hl, ops[i], ho, h⟩⟩
    · have : ∃ e, e ∈ ops[i].after ∧ Region.binds .any e = true ∧ ¬ Ls listed e.on := by
        apply Classical.byContradiction
        intro hn
        apply h
        intro e he hb
        apply Classical.byContradiction
        intro hl'
        exact hn ⟨e, he, hb, hl'⟩
      obtain ⟨e, he, hb, hl'⟩ := this
      have hlt := (drawOK_spec hok i _ ho).1 e he hb
      exact ih e.on hlt (by omega) hl'

theorem aheadOf_lt (hok : drawOK ops m = true) : ∀ (n j k : Nat), aheadOf ops n j k = true → k < j
  | 0, _, _, h => by simp [aheadOf] at h
  | n + 1, j, k, h => by
    cases ho : ops[j]? with
    | none => simp [aheadOf, ho] at h
    | some o =>
      simp only [aheadOf, ho, Bool.or_eq_true, Array.any_eq_true', Bool.and_eq_true, beq_iff_eq] at h
      rcases h with ⟨e, he, hb, rfl⟩ | ⟨e, he, hb, h⟩
      · exact (drawOK_spec hok j o ho).1 e he hb
      · have h1 := (drawOK_spec hok j o ho).1 e he hb
        have h2 := aheadOf_lt hok n e.on k h
        omega

/-- Closed downwards. -/
def Down (ops : Array Oper) (listed : Array Bool) : Prop := ∀ (i : Nat) (o : Oper), ops[i]? = some o → Ls listed i → ∀ e ∈ o.after, Region.binds .any e = true → Ls listed e.on
theorem Down.set {listed : Array Bool} (hd : Down ops listed) (hsz : listed.size = ops.size) {j : Nat} (hj : j ∈ Region.ready .any ops listed) : Down ops (listed.setIfInBounds j true) := by
  obtain ⟨_, o, ho, hall⟩ := (mem_ready' hsz).1 hj
  have hjs : j < listed.size := by rw [hsz]; exact (Array.getElem?_eq_some_iff.1 ho).1
  intro i oi hoi hi e he hb
  rw [Ls_set hjs] at hi ⊢
  rcases hi with rfl | hi
  · rw [ho] at hoi; cases hoi; exact .inr (hall e he hb)
  · exact .inr (hd i oi hoi hi e he hb)
theorem ahead_ready {listed : Array Bool} (hd : Down ops listed) (hsz : listed.size = ops.size) {j k : Nat} (hj : j ∈ Region.ready .any ops listed) (h : aheadOf ops 10 j k = true) : Ls listed k := by
  obtain ⟨_, o, ho, hall⟩ := (mem_ready' hsz).1 hj
  exact aheadOf_listed hd 10 j k o ho hall h
theorem ahead_listed {listed : Array Bool} (hd : Down ops listed) {j k : Nat} (hj : Ls listed j) (hlt : j < ops.size) (h : aheadOf ops 10 j k = true) : Ls listed k :=
  aheadOf_listed hd 10 j k _ (Array.getElem?_eq_getElem hlt) (hd j _ (Array.getElem?_eq_getElem hlt) hj) h

/-- The forced tail. -/
theorem any_tail (hok : drawOK ops m = true) {t' : List AV} {H' : List AB} {Q : Exit → Act → World → Prop} :
    ∀ (fuel : Nat) (listed : Array Bool) (j : Nat) (t : List AV) (H : List AB) (σ : List (Nat × Nat)) (a : Act) (w : World), listed.size = ops.size → Down ops listed →
      (left ops listed).length ≤ fuel → m ≤ j → (∀ i, i < ops.size → (Ls listed i ↔ i < j)) → Chain P ops j t H ops.size t' H' → Sim σ H w → RelL σ t a.tmps.toList →
      (∀ a' w' σ', RelL σ' t' a'.tmps.toList → a'.defers = a.defers → Sim σ' H' w' → Fr σ H w σ' H' w' → Q .normal a' w') → wpAny P .any ops Q fuel listed a w := by
  intro fuel
  induction fuel with
  | zero =>
    intro listed j t H σ a w hsz hd hf hm hl c s r q
    have hle := c.le
    have hj : j = ops.size := by
      rcases Nat.lt_or_ge j ops.size with h | h
      · have : j ∈ left ops listed := mem_left.2 ⟨h, fun hh => by have := (hl j h).1 hh; omega⟩
        have := List.length_pos_of_mem this
        omega
      · omega
    subst hj
    have hq : Q .normal a w := by
      cases c with
      | nil => exact q a w σ r rfl s (Fr.refl _ _ _)
      | cons h c => have := c.le; omega
    refine ⟨?_, hq⟩
    cases hr : Region.ready .any ops listed with
    | nil => rfl
    | cons x l =>
      have hx : x ∈ Region.ready .any ops listed := by rw [hr]; simp
      obtain ⟨hnl, o, ho, _⟩ := (mem_ready' hsz).1 hx
      have hxs := (Array.getElem?_eq_some_iff.1 ho).1
      exact absurd ((hl x hxs).2 hxs) hnl
  | succ fuel ih =>
    intro listed j t H σ a w hsz hd hf hm hl c s r q
    have hle := c.le
    refine ⟨fun hr => ?_, fun x hx => ?_⟩
    · have hj : j = ops.size := by
        rcases Nat.lt_or_ge j ops.size with h | h
        · obtain ⟨y, hy⟩ := ready_some hok hsz j h (fun hh => by have := (hl j h).1 hh; omega)
          rw [hr] at hy; cases hy
        · omega
      subst hj
      cases c with
      | nil => exact q a w σ r rfl s (Fr.refl _ _ _)
      | cons h c => have := c.le; omega
    · obtain ⟨hnl, o, ho, hall⟩ := (mem_ready' hsz).1 hx
      have hxs := (Array.getElem?_eq_some_iff.1 ho).1
      have hxj : x = j := by
        have h1 : ¬ x < j := fun h => hnl ((hl x hxs).2 h)
        have h2 : ¬ j < x := fun h => by
          have := ahead_ready hd hsz hx ((drawOK_spec hok x o ho).2.2 (by omega) j h)
          have := (hl j (by omega)).1 this
          omega
        omega
      subst hxj
      cases c with
      | nil => omega
      | cons h c =>
        refine h σ w a Q _ s r fun a1 w1 σ1 r1 d1 s1 f1 => ?_
        refine ih (listed.setIfInBounds x true) (x + 1) _ _ σ1 a1 w1 (by simpa using hsz) (hd.set hsz hx) ?_ (by omega) (fun i hi => ?_) c s1 r1 fun a2 w2 σ2 r2 d2 s2 f2 => q a2 w2 σ2 r2 (d2.trans d1) s2 (f1.trans f2)
        · have := left_set hxs hsz hnl; omega
        · rw [Ls_set (by omega)]
          have := hl i hi
          constructor
          · rintro (rfl | h)
            · omega
            · have := this.1 h; omega
          · intro h
            by_cases hix : i = x
            · exact .inl hix
            · exact .inr (this.2 (by omega))

/-- The first operations, in any order. -/
theorem any_pre (hok : drawOK ops m = true) (hmn : m ≤ ops.size) {t t' : List AV} {H H' : List AB} {val : Nat → AV} (hv : ∀ i, i < m → QVal P ops i (stAt ops val t 0 i) H (val i))
    (c : Chain P ops m (stAt ops val t 0 m) H ops.size t' H') {Q : Exit → Act → World → Prop} {σ : List (Nat × Nat)} :
    ∀ (fuel : Nat) (listed : Array Bool) (a : Act) (w : World), listed.size = ops.size → Down ops listed →
      (left ops listed).length ≤ fuel → (∀ i, m ≤ i → ¬ Ls listed i) → Sim σ H w → a.tmps.size = t.length →
      (∀ x, (∀ i, i < m → Ls listed i → gDst ops i = some x → x < t.length → Rel σ (val i) (a.tmps.getD x undef)) ∧ ((∀ i, i < m → Ls listed i → gDst ops i ≠ some x) → Rel σ (getL t x) (a.tmps.getD x undef))) →
      (∀ a' w' σ', RelL σ' t' a'.tmps.toList → a'.defers = a.defers → Sim σ' H' w' → Fr σ H w σ' H' w' → Q .normal a' w') → wpAny P .any ops Q fuel listed a w := by
  have hdist : ∀ i i', i < m → i' < m → i' ≠ i → ∀ x, gDst ops i = some x → gDst ops i' ≠ some x := fun i i' hi hi' hne x hx => by
    have hoi : ops[i]? = some ops[i] := Array.getElem?_eq_getElem (by omega)
    have hd : ops[i].dst = some x := by simpa [gDst, hoi] using hx
    exact ((drawOK_spec hok i _ hoi).2.1 hi).2 i' hi' hne x hd
  -- all of them have come up: the tail begins
  have htail : ∀ (fuel : Nat) (listed : Array Bool) (a : Act) (w : World), listed.size = ops.size → Down ops listed →
      (left ops listed).length ≤ fuel → (∀ i, m ≤ i → ¬ Ls listed i) → (∀ i, i < m → Ls listed i) → Sim σ H w → a.tmps.size = t.length →
      (∀ x, (∀ i, i < m → Ls listed i → gDst ops i = some x → x < t.length → Rel σ (val i) (a.tmps.getD x undef)) ∧ ((∀ i, i < m → Ls listed i → gDst ops i ≠ some x) → Rel σ (getL t x) (a.tmps.getD x undef))) →
      (∀ a' w' σ', RelL σ' t' a'.tmps.toList → a'.defers = a.defers → Sim σ' H' w' → Fr σ H w σ' H' w' → Q .normal a' w') → wpAny P .any ops Q fuel listed a w := by
    intro fuel listed a w hsz hd hf hnm hall s hat hx q
    refine any_tail hok fuel listed m _ H σ a w hsz hd hf (Nat.le_refl _) (fun i hi => ⟨fun h => ?_, fun h => hall i h⟩) c s ?_ q
    · rcases Nat.lt_or_ge i m with h' | h'
      · exact h'
      · exact absurd h (hnm i h')
    · refine RelL.of_get (by rw [stAt_length]; simpa using hat.symm) fun x b y hb hy => ?_
      have hxl : x < t.length := by
        rcases Nat.lt_or_ge x t.length with h' | h'
        · exact h'
        · rw [List.getElem?_eq_none (by rw [stAt_length]; exact h')] at hb; cases hb
      have hb' : b = getL (stAt ops val t 0 m) x := by
        rw [getL_some (by rw [stAt_length]; exact hxl)] at hb; cases hb; rfl
      have hy' : a.tmps.getD x undef = y := by
        have : a.tmps[x]? = some y := by simpa using hy
        rw [Array.getD_eq_getD_getElem?, this]; rfl
      subst hb'
      rw [← hy']
      by_cases hex : ∃ i, i < m ∧ gDst ops i = some x
      · obtain ⟨i, hi, hgi⟩ := hex
        rw [stAt_val ops val m 0 t i (by omega) (by omega) hgi hxl (fun i' _ h2 h3 => hdist i i' hi (by omega) h3 x hgi)]
        exact (hx x).1 i hi (hall i hi) hgi hxl
      · have hno : ∀ i, i < m → gDst ops i ≠ some x := fun i hi hg => hex ⟨i, hi, hg⟩
        rw [stAt_untouched ops val m 0 t (fun i _ h2 => hno i (by omega))]
        exact (hx x).2 fun i hi _ => hno i hi
  intro fuel
  induction fuel with
  | zero =>
    intro listed a w hsz hd hf hnm s hat hx q
    refine htail 0 listed a w hsz hd hf hnm (fun i hi => ?_) s hat hx q
    apply Classical.byContradiction
    intro hn
    have : i ∈ left ops listed := mem_left.2 ⟨by omega, hn⟩
    have := List.length_pos_of_mem this
    omega
  | succ fuel ih =>
    intro listed a w hsz hd hf hnm s hat hx q
    by_cases hall : ∀ i, i < m → Ls listed i
    · exact htail _ listed a w hsz hd hf hnm hall s hat hx q
    refine ⟨fun hr => ?_, fun j hj => ?_⟩
    · exfalso
      apply hall
      intro i hi
      apply Classical.byContradiction
      intro hn
      obtain ⟨y, hy⟩ := ready_some hok hsz i (by omega) hn
      rw [hr] at hy; cases hy
    · obtain ⟨hnl, o, ho, hafter⟩ := (mem_ready' hsz).1 hj
      have hjs := (Array.getElem?_eq_some_iff.1 ho).1
      have hjm : j < m := by
        rcases Nat.lt_or_ge j m with h | h
        · exact h
        · exfalso
          apply hall
          intro i hi
          exact ahead_ready hd hsz hj ((drawOK_spec hok j o ho).2.2 h i (by omega))
      obtain ⟨o', ho', hq⟩ := hv j hjm
      rw [ho] at ho'; cases ho'
      have hdst : gDst ops j = o.dst := by simp [gDst, ho]
      refine hq σ w a Q _ s (fun n hn => ?_) (by rw [stAt_length]; exact hat) fun rv w' hrv s' f' => ?_
      · -- what it looks at
        by_cases hnl' : n < t.length
        · by_cases hex : ∃ i, i < m ∧ gDst ops i = some n
          · obtain ⟨i, hi, hgi⟩ := hex
            have hah := ((drawOK_spec hok j o ho).2.1 hjm).1 n hn i hi hgi
            have hil := ahead_ready hd hsz hj hah
            have him : i < m := hi
            have hij : i < j := aheadOf_lt hok 10 j i hah
            rw [stAt_val ops val j 0 t i (by omega) (by omega) hgi hnl' (fun i' _ h2 h3 => hdist i i' him (by omega) h3 n hgi)]
            exact (hx n).1 i him hil hgi hnl'
          · have hno : ∀ i, i < m → gDst ops i ≠ some n := fun i hi hg => hex ⟨i, hi, hg⟩
            rw [stAt_untouched ops val j 0 t (fun i _ h2 => hno i (by omega))]
            exact (hx n).2 fun i hi _ => hno i (by omega)
        · rw [getL_none (by rw [stAt_length]; omega)]
          have : a.tmps.getD n undef = undef := by
            rw [Array.getD_eq_getD_getElem?, Array.getElem?_eq_none (by omega)]; rfl
          rw [this]; exact .tup .nil
      · refine ih (listed.setIfInBounds j true) (a.put o.dst rv) w' (by simpa using hsz) (hd.set hsz hj) ?_ (fun i hi => ?_) s' ?_ (fun x => ⟨fun i hi hli hgi hxl => ?_, fun hno => ?_⟩) fun a2 w2 σ2 r2 d2 s2 f2 => q a2 w2 σ2 r2 (d2.trans (put_defers _ _ _)) s2 (f'.trans f2)
        · have := left_set hjs hsz hnl; omega
        · rw [Ls_set (by omega)]; rintro (rfl | h)
          · omega
          · exact hnm i hi h
        · cases o.dst <;> simp [Act.put, hat]
        · rw [Ls_set (by omega)] at hli
          by_cases hij : i = j
          · subst hij
            rw [hdst] at hgi
            rw [hgi]
            simp only [Act.put]
            rw [Array.getD_eq_getD_getElem?, Array.getElem?_setIfInBounds_self_of_lt (by omega)]
            exact hrv
          · have hne : o.dst ≠ some x := by rw [← hdst]; exact hdist i j hi hjm (Ne.symm hij) x hgi
            have : (a.put o.dst rv).tmps.getD x undef = a.tmps.getD x undef := by
              cases hod : o.dst with
              | none => rfl
              | some d =>
                have hdx : d ≠ x := fun e => hne (by rw [hod, e])
                simp [Act.put, Array.getD_eq_getD_getElem?, Array.getElem?_setIfInBounds_ne hdx]
            rw [this]
            exact (hx x).1 i hi (hli.resolve_left hij) hgi hxl
        · have hne : o.dst ≠ some x := by rw [← hdst]; exact hno j hjm ((Ls_set (by omega)).2 (.inl rfl))
          have : (a.put o.dst rv).tmps.getD x undef = a.tmps.getD x undef := by
            cases hod : o.dst with
            | none => rfl
            | some d =>
              have hdx : d ≠ x := fun e => hne (by rw [hod, e])
              simp [Act.put, Array.getD_eq_getD_getElem?, Array.getElem?_setIfInBounds_ne hdx]
          rw [this]
          exact (hx x).2 fun i hi hli => hno i hi ((Ls_set (by omega)).2 (.inr hli))
end
end Go.Ax

/- One operation: the model does the same. -/
namespace Go.Ax
open Go

/-- What is asked of a function's evaluation. -/
def CallOK (P : Program) (f : FuncId) (args : List AV) (H : List AB) (v : AV) (H' : List AB) : Prop :=
  ∀ (σ : List (Nat × Nat)) (w : World) (rargs : Array Value), Sim σ H w → RelL σ args rargs.toList → Calls P f rargs w (fun e w' => ∃ rv, e = .returned rv ∧ Out σ H w v H' rv w')
def SoundT (P : Program) (T : Table) : Prop :=
  ∀ (f : FuncId) (args : List AV) (H : List AB) (nd : List Bool) (K : KF), (T f args H nd K).sel = .fail ∨
    ∃ v H' nd', (T f args H nd K).sel = (K v H' nd').sel ∧ (allT nd' = true → allT nd = true ∧ CallOK P f args H v H')

section
variable {P : Program} {T : Table} {ops : Array Oper} {σ : List (Nat × Nat)} {H : List AB} {w : World}

/-- The operations that make or write memory. -/
theorem eop_out {o : Oper} {ρA : Operand → AV} {ρ : Operand → Value} {v : AV} {H' : List AB} {nd : List Bool} (h : eop P o.op ρA H = some (v, H', nd)) (hnd : allT nd = true) (s : Sim σ H w)
    (hr : ∀ x ∈ o.op.operands, Rel σ (ρA x) (ρ x)) : ∃ rv w', ((execOp ρ o).run P w = .ok (.value rv) w' ∨ ((execOp ρ o).run P w = .ok .skip w' ∧ rv = undef)) ∧ Out σ H w v H' rv w' := by
  unfold eop at h
  split at h <;> (try (cases h; done)) <;> rename_i hop
  · rename_i e
    split at h <;> cases h
    rename_i z hz
    obtain ⟨zv, hzr, hzrel, _⟩ := zeroA_run (w := w) (σ := σ) hz
    have hrel := relA_of (cellsA_rel hzrel (zeroA_not hz))
    obtain ⟨a1, a2, a3⟩ := alloc_out (A := .lit (cellsA z)) (t := e) s hrel
    exact ⟨.pointer (some ⟨w.heap.size, 0, none⟩), _, .inl (by simp [execOp, hop, Instr.alloc, hzr, newVar, newRow]), _, .p a3, a1, a2⟩
  · rename_i e x
    split at h <;> cases h
    rename_i hna
    have hrel := relA_of (cellsA_rel (hr x (by simp [hop, Op.operands])) hna)
    obtain ⟨a1, a2, a3⟩ := alloc_out (A := .lit (cellsA (ρA x))) (t := e) s hrel
    exact ⟨.pointer (some ⟨w.heap.size, 0, none⟩), _, .inl (by simp [execOp, hop, Instr.box, newVar, newRow]), _, .p a3, a1, a2⟩
  · rename_i t a x
    obtain ⟨rfl, w', h1, h2, h3⟩ := store_out h hnd s (hr a (by simp [hop, Op.operands])) (hr x (by simp [hop, Op.operands]))
    exact ⟨undef, w', .inr ⟨by simp [execOp, hop, h1], rfl⟩, σ, .tup .nil, h2, h3⟩
  · rename_i t len parts
    have hp : (parts.toList.map fun x => (x.1, ρA x.2)).length = (parts.map fun (x : Nat × Operand) => (x.1, ρ x.2)).toList.length ∧ ∀ (j : Nat) (p : Nat × AV) (q : Nat × Value),
        (parts.toList.map fun x => (x.1, ρA x.2))[j]? = some p → (parts.map fun (x : Nat × Operand) => (x.1, ρ x.2)).toList[j]? = some q → p.1 = q.1 ∧ Rel σ p.2 q.2 := by
      refine ⟨by simp, fun j p q hp hq => ?_⟩
      simp only [List.getElem?_map, Array.getElem?_toList, Option.map_eq_some_iff] at hp
      obtain ⟨p0, hp0, rfl⟩ := hp
      simp only [Array.getElem?_toList, Array.getElem?_map, hp0, Option.map_some, Option.some.injEq] at hq
      subst hq
      refine ⟨rfl, hr p0.2 ?_⟩
      simp [hop, Op.operands]
      exact ⟨p0.1, by have := Array.mem_of_getElem? hp0; simpa using this⟩
    obtain ⟨rv, w', h1, h2⟩ := buildSlice_out h hnd s hp
    exact ⟨rv, w', .inl (by simp [execOp, hop, h1]), h2⟩
  · rename_i t l c
    obtain ⟨rv, w', h1, h2⟩ := make_out h hnd s (hr l (by simp [hop, Op.operands])) (hr c (by simp [hop, Op.operands]))
    exact ⟨rv, w', .inl (by simp [execOp, hop, h1]), h2⟩
  · rename_i args ts
    have h1 : RelL σ (args.toList.map ρA) (args.map ρ).toList := by
      rw [Array.toList_map]; exact relL_map _ fun x hx => hr x (by simp [hop, Op.operands, Call.operands]; simpa using hx)
    obtain ⟨rv, w', e1, e2⟩ := append_out (ty := o.type) h hnd s h1
    exact ⟨rv, w', .inl (by simp [execOp, hop, resolve, invoke, builtin, e1]), e2⟩

/-- A call. -/
theorem call_run {o : Oper} {c : Call} {ρA : Operand → AV} {ρ : Operand → Value} {g : FuncId} {args : List AV} (hop : o.op = .call c) (h : aCall c ρA = some (g, args))
    (hr : ∀ x ∈ o.op.operands, Rel σ (ρA x) (ρ x)) : ∃ rargs : Array Value, RelL σ args rargs.toList ∧ (execOp ρ o).run P w = (callFunc g rargs).run P w := by
  unfold aCall at h
  split at h <;> try (cases h; done)
  rename_i f hf
  split at h <;> try (cases h; done)
  rename_i g' first cap hfv
  cases h
  have h1 := hr f (by rw [hop]; simp [Op.operands, Call.operands, hf])
  rw [hfv] at h1
  have h2 : RelL σ (c.args.toList.map ρA) (c.args.map ρ).toList := by
    rw [Array.toList_map]; exact relL_map _ fun x hx => hr x (by rw [hop]; simp only [Op.operands, Call.operands, hf]; simp; exact .inr (by simpa using hx))
  cases hfr : ρ f <;> rw [hfr] at h1 <;> cases h1
  rename_i fs cs hfs hcs
  refine ⟨fs ++ c.args.map ρ ++ cs, ?_, ?_⟩
  · simp only [Array.toList_append]
    exact (hfs.append h2).append hcs
  · simp [execOp, hop, resolve, hf, hfr, Deferred.ofValue, invoke]

theorem extern_run {fn : Func} {g : FuncId} {args : List AV} {rargs : Array Value} {v : AV} (hg : P.funcs[g]? = some fn) (hb : fn.body = none) (h : aExtern fn args = some v) (hr : RelL σ args rargs.toList) :
    ∃ rv w', (callFunc g rargs).run P w = .ok (.value rv) w' ∧ Rel σ v rv ∧ Same w w' := by
  unfold aExtern at h
  split at h <;> try (cases h; done)
  rename_i hn
  split at h <;> cases h
  rename_i l x
  obtain ⟨rx, hra, hx⟩ := relL_one hr
  have hra' : rargs = #[rx] := by rw [← Array.toArray_toList (xs := rargs), hra]
  subst hra'
  cases hx with | f hx =>
  rename_i y
  simp only [Bool.and_eq_true, beq_iff_eq] at hn
  obtain ⟨hname, horig⟩ := hn
  have e1 : Extern.findNext fn = none := by
    unfold Extern.findNext
    simp only [hname, horig]
    have a : Extern.allNextRows.lookup "math.sqrt" = none := by kernel_rfl
    have b : Extern.allNextRows.lookup "" = none := by kernel_rfl
    rw [a, b]; rfl
  have e2 : Extern.find fn = some Extern.MathSqrt.sqrt := by
    unfold Extern.find
    simp only [hname, horig]
    have a : Extern.allGenericRows.lookup "math.sqrt" = none := Option.isNone_iff_eq_none.1 (by kernel_rfl)
    have b : Extern.allTypedRows.lookup "math.sqrt" = none := Option.isNone_iff_eq_none.1 (by kernel_rfl)
    have c : Extern.allRows.lookup "math.sqrt" = some Extern.MathSqrt.sqrt := by kernel_rfl
    rw [a, b, c]; rfl
  have hrun := run_callFunc_extern hg (by rw [hname]; rfl) (by rw [hb]; rfl) e1 e2 #[.float .f64 y] w
  have hsq : (FloatKind.f64.format.sqrt x) = (FloatKind.f64.format.sqrt y) := by
    rcases hx with h | ⟨h1, h2⟩
    · rw [h]
    · have : ∀ z, (FloatKind.f64.decode z).isNaN = true → FloatKind.f64.format.sqrt z = none := fun z hz => by
        refine map_none ?_
        show (FloatKind.f64.decode z).root _ = none
        cases hd : FloatKind.f64.decode z <;> rw [hd] at hz <;> simp [Ieee.Datum.isNaN] at hz
        rfl
      rw [this _ h1, this _ h2]
  have hs : Gives P w (Extern.MathSqrt.sqrt #[.float .f64 y]) (Rel σ (.f l .f64 (fsqrt x))) := by
    unfold fsqrt
    rw [hsq]
    have hdef : Extern.MathSqrt.sqrt #[.float .f64 y] = (match FloatKind.f64.format.sqrt y with
      | some r => pure (.float .f64 r)
      | none => do pure (.float .f64 (← choose (.nanBits .f64 y y)))) := rfl
    rw [hdef]
    cases FloatKind.f64.format.sqrt y with
    | some r => exact .pure (.f .rfl')
    | none => exact ⟨_, { w with drawn := w.drawn + 1 }, by simp [Question.forced]; rfl, .f (.inr ⟨qnan_nan _, nanBits_nan _ _ _ _⟩), Same.drew w⟩
  obtain ⟨rv, w', h1, h2, h3⟩ := hs
  exact ⟨rv, w', by rw [hrun, h1]; rfl, h2, h3⟩

/-- What one operation comes to. -/
def StepOK (P : Program) (o : Oper) (t : List AV) (H : List AB) (t' : List AV) (H' : List AB) : Prop :=
  ∀ (σ : List (Nat × Nat)) (w : World) (a : Act) (Q : Exit → Act → World → Prop) (next : Act → World → Prop), Sim σ H w → RelL σ t a.tmps.toList →
    (∀ a' w' σ', RelL σ' t' a'.tmps.toList → a'.defers = a.defers → Sim σ' H' w' → Fr σ H w σ' H' w' → next a' w') → o.wp P a w next Q

theorem opds_ok {o : Oper} {t : List AV} {a : Act} (hok : o.op.operands.all okOpd = true) (r : RelL σ t a.tmps.toList) : ∀ x ∈ o.op.operands, Rel σ (evA t x) (a.eval x) := fun x hx => by
  rw [Array.all_eq_true'] at hok
  exact evA_rel r (hok x hx)

theorem callFunc_enter {g : FuncId} {fn : Func} {c : Code} (hg : P.funcs[g]? = some fn) (hb : fn.body = some c) (hn : (fn.name == "runtime.NumGoroutine") = false) (args : Array Value) : (callFunc g args).run P w = .ok (.enter g args) w := by
  unfold callFunc
  have hn' : ¬ fn.name = "runtime.NumGoroutine" := by simpa using hn
  simp [hg, hb, hn']

theorem stepA_sound {o : Oper} {t : List AV} {nd : List Bool} {K : KT} (hok : o.op.operands.all okOpd = true) : (stepA P o.op o.dst t H nd K).sel = .fail ∨
    ∃ t' H' nd', (stepA P o.op o.dst t H nd K).sel = (K t' H' nd').sel ∧ (allT nd' = true → allT nd = true ∧ StepOK P o t H t' H') := by
  unfold stepA
  cases h1 : aop P o.op (evA t) H with
  | some x =>
    obtain ⟨v, n⟩ := x
    refine .inr ⟨_, _, _, rfl, fun hn => ?_⟩
    rw [allT_append, Bool.and_eq_true] at hn
    refine ⟨hn.2, fun σ w a Q next s r q => ?_⟩
    obtain ⟨rv, w', e1, e2, e3⟩ := aop_gives (ρ := a.eval) h1 hn.1 s (opds_ok hok r)
    show o.upon P a next Q ((execOp a.eval o).run P w)
    rw [e1]
    exact q _ _ σ (r.put e2) (put_defers _ _ _) (e3.sim s) e3.fr
  | none =>
    cases h2 : eop P o.op (evA t) H with
    | none => exact .inl rfl
    | some x =>
      obtain ⟨v, H', n⟩ := x
      refine .inr ⟨_, _, _, rfl, fun hn => ?_⟩
      rw [allT_append, Bool.and_eq_true] at hn
      refine ⟨hn.2, fun σ w a Q next s r q => ?_⟩
      obtain ⟨rv, w', e1, σ', e2, e3, e4⟩ := eop_out (ρ := a.eval) h2 hn.1 s (opds_ok hok r)
      show o.upon P a next Q ((execOp a.eval o).run P w)
      rcases e1 with e1 | ⟨e1, rfl⟩
      · rw [e1]
        refine q _ _ σ' (RelL.put ?_ e2) (put_defers _ _ _) e3 e4
        exact RelL.mono e4.ext r
      · rw [e1]
        refine q _ _ σ' (RelL.put ?_ e2) (put_defers _ _ _) e3 e4
        exact RelL.mono e4.ext r

theorem aCall_builtin {c : Call} {b : Builtin} {ρ : Operand → AV} (h : c.callee = .builtin b) : aCall c ρ = none := by unfold aCall; rw [h]

theorem stepOp_sound (hT : SoundT P T) (o : Oper) (t : List AV) (nd : List Bool) (K : KT) : (stepOp P T o t H nd K).sel = .fail ∨
    ∃ t' H' nd', (stepOp P T o t H nd K).sel = (K t' H' nd').sel ∧ (allT nd' = true → allT nd = true ∧ StepOK P o t H t' H') := by
  unfold stepOp
  split
  case isFalse => exact .inl rfl
  rename_i hok
  split
  case h_2 => exact stepA_sound hok
  rename_i c hop
  split
  case h_2 =>
    exact stepA_sound hok
  rename_i g args hcall
  split
  case h_2 => exact .inl rfl
  rename_i fn hg
  split
  · rename_i body hb
    split
    · exact .inl rfl
    rename_i hname
    rcases hT g args H nd (fun v H' nd' => K (putT t o.dst v) H' nd') with h | ⟨v, H', nd', h1, h2⟩
    · exact .inl h
    · refine .inr ⟨_, _, _, h1, fun hn => ⟨(h2 hn).1, fun σ w a Q next s r q => ?_⟩⟩
      obtain ⟨rargs, hra, hrun⟩ := call_run (w := w) (P := P) hop hcall (opds_ok hok r)
      show o.upon P a next Q ((execOp a.eval o).run P w)
      rw [hrun, callFunc_enter hg hb hname]
      refine ((h2 hn).2 σ w rargs s hra).mono ?_
      rintro e w' ⟨rv, rfl, σ', e2, e3, e4⟩
      exact q _ _ σ' (RelL.put (RelL.mono e4.ext r) e2) (put_defers _ _ _) e3 e4
  · rename_i hb
    split
    case h_2 => exact .inl rfl
    rename_i v hv
    refine .inr ⟨_, _, _, rfl, fun hn => ⟨hn, fun σ w a Q next s r q => ?_⟩⟩
    obtain ⟨rargs, hra, hrun⟩ := call_run (w := w) (P := P) hop hcall (opds_ok hok r)
    obtain ⟨rv, w', e1, e2, e3⟩ := extern_run (w := w) hg hb hv hra
    show o.upon P a next Q ((execOp a.eval o).run P w)
    rw [hrun, e1]
    exact q _ _ σ (r.put e2) (put_defers _ _ _) (e3.sim s) e3.fr

/-! ### Operations that leave memory alone -/
mutual
theorem below_rel {σ τ : List (Nat × Nat)} {n : Nat} (e : Ext σ τ) (hn : σ.length = n) : ∀ {a : AV} {v : Value}, below n a = true → Rel τ a v → Rel σ a v
  | _, _, _, .b x => .b x
  | _, _, _, .i k m => .i k m
  | _, _, _, .f h => .f h
  | _, _, _, .c h h' => .c h h'
  | _, _, _, .s l => .s l
  | _, _, hb, .p h => .p (back e hn (by simpa [below] using hb) h)
  | _, _, _, .pnil => .pnil
  | _, _, hb, .sl h hc hz => .sl (back e hn (by simpa [below] using hb) h) hc hz
  | _, _, _, .slz => .slz
  | _, _, _, .slnil => .slnil
  | _, _, _, .sle => .sle
  | _, _, hb, .fn h h' => by
    simp only [below, Bool.and_eq_true] at hb
    exact .fn (belowL_rel e hn hb.1 h) (belowL_rel e hn hb.2 h')
  | _, _, _, .fnil => .fnil
  | _, _, hb, .ifc h => .ifc (below_rel e hn (by simpa [below] using hb) h)
  | _, _, _, .inil => .inil
  | _, _, hb, .agg h => .agg (belowL_rel e hn (by simpa [below] using hb) h)
  | _, _, hb, .tup h => .tup (belowL_rel e hn (by simpa [below] using hb) h)
  | _, _, _, .any => .any
theorem belowL_rel {σ τ : List (Nat × Nat)} {n : Nat} (e : Ext σ τ) (hn : σ.length = n) : ∀ {a : List AV} {v : List Value}, belowL n a = true → RelL τ a v → RelL σ a v
  | _, _, _, .nil => .nil
  | _, _, hb, .cons h hs => by
    simp only [belowL, Bool.and_eq_true] at hb
    exact .cons (below_rel e hn hb.1 h) (belowL_rel e hn hb.2 hs)
theorem back {σ τ : List (Nat × Nat)} {n : Nat} (e : Ext σ τ) (hn : σ.length = n) {i : Nat} {b : Nat × Nat} (hi : i < n) (h : τ[i]? = some b) : σ[i]? = some b := by
  have h1 : σ[i]? = some (σ[i]'(by omega)) := List.getElem?_eq_getElem (by omega)
  have := e i _ h1
  rw [h] at this
  rw [h1, this]
end
end
end Go.Ax

/- Code run: the model does the same. -/
namespace Go.Ax
open Go

/-- As good as. -/
def Eqv (t t1 : List AV) : Prop := t.length = t1.length ∧ ∀ (σ : List (Nat × Nat)) (n : Nat) (v : Value), Rel σ (getL t n) v → Rel σ (getL t1 n) v
theorem Eqv.refl (t : List AV) : Eqv t t := ⟨rfl, fun _ _ _ h => h⟩
theorem Eqv.trans {a b c : List AV} (h : Eqv a b) (k : Eqv b c) : Eqv a c := ⟨h.1.trans k.1, fun σ n v r => k.2 σ n v (h.2 σ n v r)⟩
theorem Eqv.relL {t t1 : List AV} (h : Eqv t t1) {σ : List (Nat × Nat)} {l : List Value} (r : RelL σ t l) : RelL σ t1 l := by
  refine RelL.of_get (by rw [← h.1]; exact r.length) fun j a x ha hx => ?_
  have hj : j < t.length := by
    rw [h.1]
    rcases Nat.lt_or_ge j t1.length with h' | h'
    · exact h'
    · rw [List.getElem?_eq_none h'] at ha; cases ha
  obtain ⟨y, hy, hr⟩ := r.get (getL_some hj)
  rw [hy] at hx; cases hx
  have := h.2 σ j x hr
  rw [getL_some (by rw [← h.1]; exact hj)] at ha; cases ha
  exact this
theorem Eqv.put {t t1 : List AV} (h : Eqv t t1) (d : Option Nat) (v : AV) : Eqv (putT t d v) (putT t1 d v) := by
  cases d with
  | none => exact h
  | some d =>
    refine ⟨by simp only [putT, setL_length]; exact h.1, fun σ n x r => ?_⟩
    simp only [putT] at r ⊢
    by_cases hn : d = n
    · subst hn
      rcases Nat.lt_or_ge d t.length with h' | h'
      · rw [getL_setL_same h'] at r
        rw [getL_setL_same (by rw [← h.1]; exact h')]; exact r
      · rw [getL_none (by rw [setL_length]; exact h')] at r
        rw [getL_none (by rw [setL_length, ← h.1]; exact h')]; exact r
    · rw [getL_setL_ne hn] at r ⊢; exact h.2 σ n x r
theorem Eqv.known {t : List AV} {d : Nat} {l x : Bool} (h : getL t d = .b l x) (l' : Bool) : Eqv t (setL t d (.b l' x)) := by
  refine ⟨(setL_length _ _ _).symm, fun σ n v r => ?_⟩
  by_cases hn : d = n
  · subst hn
    rw [h] at r
    have hd : d < t.length := by
      rcases Nat.lt_or_ge d t.length with h' | h'
      · exact h'
      · rw [getL_none h'] at h; cases h
    rw [getL_setL_same hd]
    cases r; exact .b x
  · rw [getL_setL_ne hn]; exact r

section
variable {P : Program} {T : Table} {ops : Array Oper} {H : List AB}

theorem yielded_eq {j d : Nat} (h : gDst ops j = some d) (tm : Array Value) : yielded ops tm j = match tm.getD d undef with | .bool b => some b | _ => none := by
  unfold yielded
  have : (ops[j]?).bind (·.dst) = some d := by
    unfold gDst at h
    cases ho : ops[j]? <;> simp [ho] at h ⊢; exact h
  rw [this]
  simp only [Option.bind_some]
  rw [Array.getD_eq_getD_getElem?]
  cases tm[d]? with
  | none => simp [undef]
  | some v => cases v <;> rfl

def Wants (ops : Array Oper) (o : Oper) (t : List AV) (b : Bool) : Prop :=
  ∀ (σ : List (Nat × Nat)) (tm : Array Value), (∀ n ∈ looks ops o, Rel σ (getL t n) (tm.getD n undef)) → Region.wanted o (yielded ops tm) = b

theorem guarded_sound {o : Oper} {t : List AV} {yes no : List AV → Res} : (guarded ops o t yes no).sel = .fail ∨
    ∃ t1, Eqv t t1 ∧ (((guarded ops o t yes no).sel = (yes t1).sel ∧ Wants ops o t true) ∨ ((guarded ops o t yes no).sel = (no t1).sel ∧ Wants ops o t false)) := by
  unfold guarded
  split
  · rename_i hg
    exact .inr ⟨t, .refl t, .inl ⟨rfl, fun σ tm _ => by simp [Region.wanted, hg]⟩⟩
  rename_i j want hg
  split
  · exact .inl rfl
  rename_i d hd
  have hmem : d ∈ looks ops o := by simp [looks, hg, hd]
  have hw : ∀ (x : Bool) {l : Bool}, getL t d = .b l x → Wants ops o t (x == want) := fun x l hx σ tm h => by
    have h1 := h d hmem
    rw [hx] at h1
    generalize hv : tm.getD d undef = v at h1
    cases h1
    have : yielded ops tm j = some x := by rw [yielded_eq hd, hv]
    simp only [Region.wanted, hg, this]
    cases x <;> cases want <;> rfl
  split
  · rename_i l x hx
    have hx' := hw x hx
    cases l with
    | true =>
      cases x <;> cases want
      · exact .inr ⟨t, .refl t, .inl ⟨rfl, hx'⟩⟩
      · exact .inr ⟨t, .refl t, .inr ⟨rfl, hx'⟩⟩
      · exact .inr ⟨t, .refl t, .inr ⟨rfl, hx'⟩⟩
      · exact .inr ⟨t, .refl t, .inl ⟨rfl, hx'⟩⟩
    | false =>
      refine .inr ⟨setL t d (.b true x), .known hx true, ?_⟩
      cases want <;> cases x
      · exact .inl ⟨rfl, hx'⟩
      · exact .inr ⟨rfl, hx'⟩
      · exact .inr ⟨rfl, hx'⟩
      · exact .inl ⟨rfl, hx'⟩
  · rename_i hx
    refine .inr ⟨t, .refl t, .inr ⟨rfl, fun σ tm h => ?_⟩⟩
    have h1 := h d hmem
    rw [hx] at h1
    generalize hv : tm.getD d undef = v at h1
    cases h1
    have : yielded ops tm j = none := by rw [yielded_eq hd, hv]
    simp only [Region.wanted, hg, this]
    rfl
  · exact .inl rfl

theorem relL_looks {σ : List (Nat × Nat)} {t : List AV} {tm : Array Value} (r : RelL σ t tm.toList) (o : Oper) : ∀ n ∈ looks ops o, Rel σ (getL t n) (tm.getD n undef) := fun n _ => r.getD n

theorem drop_cons {l : List Oper} {k : Nat} {o : Oper} {rest : List Oper} (h : o :: rest = l.drop k) : l[k]? = some o ∧ rest = l.drop (k + 1) := by
  have h1 : l[k]? = some o := by
    have := congrArg (·[0]?) h
    simpa using this.symm
  refine ⟨h1, ?_⟩
  have := congrArg List.tail h
  simpa [List.tail_drop] using this

/-- In the text's order. -/
theorem runOps_sound (hT : SoundT P T) (K : KT) : ∀ (l : List Oper) (k : Nat) (t : List AV) (H : List AB) (nd : List Bool), l = ops.toList.drop k → k ≤ ops.size → (runOps P T ops l t H nd K).sel = .fail ∨
    ∃ t' H' nd', (runOps P T ops l t H nd K).sel = (K t' H' nd').sel ∧ (allT nd' = true → allT nd = true ∧ Chain P ops k t H ops.size t' H')
  | [], k, t, H, nd, hl, hk => by
    have : ops.size ≤ k := by
      have := congrArg List.length hl
      simp at this; omega
    have : k = ops.size := by omega
    subst this
    exact .inr ⟨t, H, nd, rfl, fun h => ⟨h, .nil⟩⟩
  | o :: rest, k, t, H, nd, hl, hk => by
    obtain ⟨ho, hrest⟩ := drop_cons hl
    have ho' : ops[k]? = some o := by simpa using ho
    have hks : k < ops.size := (Array.getElem?_eq_some_iff.1 ho').1
    rw [runOps]
    rcases guarded_sound (ops := ops) (o := o) (t := t) (yes := fun t => stepOp P T o t H nd fun t H nd => runOps P T ops rest t H nd K)
        (no := fun t => runOps P T ops rest (putT t o.dst (.tup [])) H nd K) with h | ⟨t1, he, ⟨h, hw⟩ | ⟨h, hw⟩⟩
    · exact .inl h
    · rw [h]
      rcases stepOp_sound (H := H) hT o t1 nd (fun t H nd => runOps P T ops rest t H nd K) with h2 | ⟨t2, H2, nd2, h2, h3⟩
      · exact .inl h2
      rw [h2]
      rcases runOps_sound hT K rest (k + 1) t2 H2 nd2 hrest hks with h4 | ⟨t', H', nd', h4, h5⟩
      · exact .inl h4
      refine .inr ⟨t', H', nd', h4, fun hn => ?_⟩
      obtain ⟨h6, h7⟩ := h5 hn
      obtain ⟨h8, h9⟩ := h3 h6
      refine ⟨h8, .cons ?_ h7⟩
      intro σ w a Q next s r q
      simp only [wpOp, ho', hw σ a.tmps (relL_looks r o), if_true]
      exact .inl (h9 σ w a Q next s (he.relL r) q)
    · rw [h]
      rcases runOps_sound hT K rest (k + 1) (putT t1 o.dst (.tup [])) H nd hrest hks with h4 | ⟨t', H', nd', h4, h5⟩
      · exact .inl h4
      refine .inr ⟨t', H', nd', h4, fun hn => ?_⟩
      obtain ⟨h6, h7⟩ := h5 hn
      refine ⟨h6, .cons ?_ h7⟩
      intro σ w a Q next s r q
      simp only [wpOp, ho', hw σ a.tmps (relL_looks r o)]
      exact q _ w σ ((he.relL r).put (.tup .nil)) (put_defers _ _ _) s (Fr.refl _ _ _)

/-! ### Operations that leave memory alone -/
theorem getB_roH : ∀ (H : List AB) (i : Nat), getB (roH H) i = roB (getB H i)
  | [], _ => rfl
  | _ :: _, 0 => rfl
  | _ :: H, i + 1 => getB_roH H i
theorem roH_length : ∀ (H : List AB), (roH H).length = H.length
  | [] => rfl
  | _ :: H => by simp [roH, roH_length H]
theorem roB_rw (A : AB) : (roB A).rw = false := by cases A <;> rfl
theorem Sim.ro {σ : List (Nat × Nat)} {w : World} (s : Sim σ H w) : Sim σ (roH H) w := by
  refine ⟨by rw [roH_length]; exact s.len, fun i b z hb => ?_, fun i j b z z' _ _ hr _ => ?_, s.base.rw' (fun i hr => by rw [getB_roH, roB_rw] at hr; cases hr)⟩
  · rw [getB_roH]
    have := s.blk i b z hb
    cases hg : getB H i with
    | dead => trivial
    | cells r A =>
      rw [hg] at this
      obtain ⟨c, e, fr, h1, h2, h3, _⟩ := this
      exact ⟨c, e, fr, h1, h2, h3, fun h => by cases h⟩
    | code o0 xs0 =>
      rw [hg] at this
      exact this
  · rw [getB_roH, roB_rw] at hr; cases hr
theorem Sim.ro_back {σ σ' : List (Nat × Nat)} {H' : List AB} {w w' : World} (s : Sim σ H w) (f : Fr σ (roH H) w σ' H' w') : Sim σ H w' ∧ Fr σ H w σ H w' := by
  have hold : ∀ b, b < w.heap.size → w'.heap[b]? = w.heap[b]? := fun b hb => f.old b hb fun i z hr => by
    rw [getB_roH, roB_rw] at hr; cases hr
  refine sim_fr s s.len (fun i b z hb => ?_) s.inj ⟨f.os, f.tape, f.output, f.size, fun b hb _ => hold b hb, Ext.refl σ, fun i b z h h' => (by rw [h'] at h; cases h), fun _ _ h => h⟩
  have := s.blk i b z hb
  cases hg : getB H i with
  | dead => trivial
  | cells r A =>
    rw [hg] at this
    have hlt := s.lt hb (by rw [hg]; rfl)
    rw [hold b hlt]; exact this
  | code o0 xs0 =>
    rw [hg] at this
    have hlt := s.lt hb (by rw [hg]; rfl)
    rw [hold b hlt]; exact this

def StepQOK (P : Program) (o : Oper) (t : List AV) (H : List AB) (v : AV) : Prop :=
  ∀ (σ : List (Nat × Nat)) (w : World) (a : Act) (Q : Exit → Act → World → Prop) (next : Act → World → Prop), Sim σ H w → (∀ x ∈ o.op.operands, Rel σ (evA t x) (a.eval x)) →
    (∀ rv w', Rel σ v rv → Sim σ H w' → Fr σ H w σ H w' → next (a.put o.dst rv) w') → o.wp P a w next Q

theorem stepAQ_sound {o : Oper} {t : List AV} {nd : List Bool} {K : List AV → List Bool → Res} : (stepAQ P o.op o.dst t H nd K).sel = .fail ∨
    ∃ v nd', (stepAQ P o.op o.dst t H nd K).sel = (K (putT t o.dst v) nd').sel ∧ (allT nd' = true → allT nd = true ∧ StepQOK P o t H v) := by
  unfold stepAQ
  cases h1 : aop P o.op (evA t) H with
  | none => exact .inl rfl
  | some x =>
    obtain ⟨v, n⟩ := x
    refine .inr ⟨_, _, rfl, fun hn => ?_⟩
    rw [allT_append, Bool.and_eq_true] at hn
    refine ⟨hn.2, fun σ w a Q next s r q => ?_⟩
    obtain ⟨rv, w', e1, e2, e3⟩ := aop_gives (ρ := a.eval) h1 hn.1 s r
    show o.upon P a next Q ((execOp a.eval o).run P w)
    rw [e1]
    exact q _ _ e2 (e3.sim s) e3.fr

theorem stepQ_sound (hT : SoundT P T) (o : Oper) (t : List AV) (nd : List Bool) (K : List AV → List Bool → Res) : (stepQ P T o t H nd K).sel = .fail ∨
    ∃ v nd', (stepQ P T o t H nd K).sel = (K (putT t o.dst v) nd').sel ∧ (allT nd' = true → allT nd = true ∧ o.op.operands.all okOpd = true ∧ StepQOK P o t H v) := by
  unfold stepQ
  split
  case isFalse => exact .inl rfl
  rename_i hok
  have aux : ∀ {R : Res} {A : AV → Prop}, (R.sel = .fail ∨ ∃ v nd', R.sel = (K (putT t o.dst v) nd').sel ∧ (allT nd' = true → allT nd = true ∧ A v)) →
      (R.sel = .fail ∨ ∃ v nd', R.sel = (K (putT t o.dst v) nd').sel ∧ (allT nd' = true → allT nd = true ∧ o.op.operands.all okOpd = true ∧ A v)) := by
    rintro R A (h | ⟨v, nd', h1, h2⟩)
    · exact .inl h
    · exact .inr ⟨v, nd', h1, fun h => ⟨(h2 h).1, hok, (h2 h).2⟩⟩
  split
  case h_2 => exact aux stepAQ_sound
  rename_i c hop
  split
  case h_2 => exact aux stepAQ_sound
  rename_i g args hcall
  split
  case h_2 => exact .inl rfl
  rename_i fn hg
  split
  · rename_i body hb
    split
    · exact .inl rfl
    rename_i hname
    rcases hT g args (roH H) nd (fun v _ nd' => match below H.length v with
              | true => K (putT t o.dst v) nd'
              | false => .fail) with h | ⟨v, H', nd', h1, h2⟩
    · exact .inl h
    · cases hbl : below H.length v with
      | false => simp only [hbl] at h1; exact .inl h1
      | true =>
        simp only [hbl] at h1
        refine .inr ⟨_, _, h1, fun hn => ⟨(h2 hn).1, hok, fun σ w a Q next s r q => ?_⟩⟩
        obtain ⟨rargs, hra, hrun⟩ := call_run (w := w) (P := P) hop hcall r
        show o.upon P a next Q ((execOp a.eval o).run P w)
        rw [hrun, callFunc_enter hg hb hname]
        refine ((h2 hn).2 σ w rargs s.ro hra).mono ?_
        rintro e w' ⟨rv, rfl, σ', e2, e3, e4⟩
        obtain ⟨s', f'⟩ := s.ro_back e4
        exact q _ _ (below_rel e4.ext s.len hbl e2) s' f'
  · rename_i hb
    split
    case h_2 => exact .inl rfl
    rename_i v hv
    refine .inr ⟨_, _, rfl, fun hn => ⟨hn, hok, fun σ w a Q next s r q => ?_⟩⟩
    obtain ⟨rargs, hra, hrun⟩ := call_run (w := w) (P := P) hop hcall r
    obtain ⟨rv, w', e1, e2, e3⟩ := extern_run (w := w) hg hb hv hra
    show o.upon P a next Q ((execOp a.eval o).run P w)
    rw [hrun, e1]
    exact q _ _ e2 (e3.sim s) e3.fr

theorem QChain.conv {k j : Nat} {t1 t' : List AV} (c : QChain P ops H k t1 j t') : ∀ {t : List AV}, Eqv t t1 → ∃ t'', QChain P ops H k t j t'' ∧ Eqv t'' t' := by
  induction c with
  | nil => exact fun e => ⟨_, .nil, e⟩
  | @cons k j t1 t' v h c ih =>
    intro t e
    obtain ⟨t'', c', e'⟩ := ih (e.put (gDst ops k) v)
    refine ⟨t'', .cons ?_ c', e'⟩
    obtain ⟨o, ho, hq⟩ := h
    exact ⟨o, ho, fun σ w a Q next s r hsz q => hq σ w a Q next s (fun n hn => e.2 σ n _ (r n hn)) (hsz.trans e.1) q⟩
theorem Chain.conv {k j : Nat} {t1 t' : List AV} {H' : List AB} (c : Chain P ops k t1 H j t' H') : ∀ {t : List AV}, Eqv t t1 → ∃ t'', Chain P ops k t H j t'' H' ∧ Eqv t'' t' := by
  cases c with
  | nil => exact fun e => ⟨_, .nil, e⟩
  | cons h c => exact fun e => ⟨_, .cons (fun σ w a Q next s r q => h σ w a Q next s (e.relL r) q) c, .refl _⟩

theorem opds_looks {o : Oper} {t : List AV} {a : Act} {σ : List (Nat × Nat)} (hok : o.op.operands.all okOpd = true) (r : ∀ n ∈ looks ops o, Rel σ (getL t n) (a.tmps.getD n undef)) :
    ∀ x ∈ o.op.operands, Rel σ (evA t x) (a.eval x) := fun x hx => by
  rw [Array.all_eq_true'] at hok
  have hk := hok x hx
  cases x with
  | tmp n =>
    refine r n ?_
    simp only [looks, List.mem_append, List.mem_filterMap]
    exact .inl ⟨.tmp n, by simpa using hx, rfl⟩
  | const v =>
    simp only [okOpd] at hk
    cases hv : ofV v with
    | none => rw [hv] at hk; cases hk
    | some b => simp only [evA, hv, Act.eval]; exact ofV_rel hv
  | global g => cases hk
  | func f => exact .fn .nil .nil

theorem runQ_sound (hT : SoundT P T) (K : List AV → List Bool → Res) {m : Nat} (hm : m ≤ ops.size) : ∀ (l : List Oper) (k : Nat) (t : List AV) (nd : List Bool), l = (ops.toList.take m).drop k → k ≤ m → (runQ P T ops l t H nd K).sel = .fail ∨
    ∃ t' nd', (runQ P T ops l t H nd K).sel = (K t' nd').sel ∧ (allT nd' = true → allT nd = true ∧ ∃ t'', QChain P ops H k t m t'' ∧ Eqv t'' t')
  | [], k, t, nd, hl, hk => by
    have : m ≤ k := by
      have := congrArg List.length hl
      simp at this; omega
    have : k = m := by omega
    subst this
    exact .inr ⟨t, nd, rfl, fun h => ⟨h, t, .nil, .refl t⟩⟩
  | o :: rest, k, t, nd, hl, hk => by
    obtain ⟨ho, hrest⟩ := drop_cons hl
    have hks : k < m := by
      rcases Nat.lt_or_ge k m with h' | h'
      · exact h'
      · rw [List.getElem?_eq_none (by simp; omega)] at ho; cases ho
    have ho' : ops[k]? = some o := by
      rw [List.getElem?_take_of_lt hks] at ho; simpa using ho
    have hgd : gDst ops k = o.dst := by simp [gDst, ho']
    rw [runQ]
    rcases guarded_sound (ops := ops) (o := o) (t := t) (yes := fun t => stepQ P T o t H nd fun t nd => runQ P T ops rest t H nd K)
        (no := fun t => runQ P T ops rest (putT t o.dst (.tup [])) H nd K) with h | ⟨t1, he, ⟨h, hw⟩ | ⟨h, hw⟩⟩
    · exact .inl h
    · rw [h]
      rcases stepQ_sound (H := H) hT o t1 nd (fun t nd => runQ P T ops rest t H nd K) with h2 | ⟨v, nd2, h2, h3⟩
      · exact .inl h2
      rw [h2]
      rcases runQ_sound hT K hm rest (k + 1) (putT t1 o.dst v) nd2 hrest hks with h4 | ⟨t', nd', h4, h5⟩
      · exact .inl h4
      refine .inr ⟨t', nd', h4, fun hn => ?_⟩
      obtain ⟨h6, t'', c, e''⟩ := h5 hn
      obtain ⟨h8, hok, h9⟩ := h3 h6
      obtain ⟨t3, c3, e3⟩ := c.conv (he.put o.dst v)
      rw [← hgd] at c3
      refine ⟨h8, t3, .cons ⟨o, ho', ?_⟩ c3, e3.trans e''⟩
      intro σ w a Q next s r hsz q
      simp only [wpOp, ho', hw σ a.tmps r, if_true]
      exact .inl (h9 σ w a Q next s (opds_looks hok fun n hn => he.2 σ n _ (r n hn)) q)
    · rw [h]
      rcases runQ_sound hT K hm rest (k + 1) (putT t1 o.dst (.tup [])) nd hrest hks with h4 | ⟨t', nd', h4, h5⟩
      · exact .inl h4
      refine .inr ⟨t', nd', h4, fun hn => ?_⟩
      obtain ⟨h6, t'', c, e''⟩ := h5 hn
      obtain ⟨t3, c3, e3⟩ := c.conv (he.put o.dst (.tup []))
      rw [← hgd] at c3
      refine ⟨h6, t3, .cons ⟨o, ho', ?_⟩ c3, e3.trans e''⟩
      intro σ w a Q next s r hsz q
      simp only [wpOp, ho', hw σ a.tmps r]
      exact q _ w (.tup .nil) s (Fr.refl _ _ _)

theorem quietN_le : ∀ (l : List Oper), quietN l ≤ l.length
  | [] => Nat.le_refl _
  | o :: l => by
    simp only [quietN]
    split
    · omega
    · have := quietN_le l; simp; omega

theorem quietA_le : ∀ (l : List Oper), quietA l ≤ l.length
  | [] => Nat.le_refl _
  | o :: l => by
    simp only [quietA]
    split
    · omega
    · have := quietA_le l; simp; omega
theorem qN_le (ops : Array Oper) : qN ops ≤ ops.size := by
  unfold qN
  split
  · have := quietN_le ops.toList; simpa using this
  · have := quietA_le ops.toList; simpa using this
theorem qM_le (draw : Bool) (ops : Array Oper) : qM draw ops ≤ ops.size := by
  cases draw
  · have := quietN_le ops.toList; simpa [qM] using this
  · exact qN_le ops

def RegionOK (P : Program) (id : Nat) (ops : Array Oper) (draw : Bool) (t : List AV) (H : List AB) (t' : List AV) (H' : List AB) : Prop :=
  ∀ (σ : List (Nat × Nat)) (w : World) (a : Act) (Q : Exit → Act → World → Prop), Sim σ H w → RelL σ t a.tmps.toList →
    (∀ a' w' σ', RelL σ' t' a'.tmps.toList → a'.defers = a.defers → Sim σ' H' w' → Fr σ H w σ' H' w' → Q .normal a' w') → (Code.region id ops draw).wp P Q a w

theorem runRegion_sound (hT : SoundT P T) (id : Nat) (draw : Bool) (t : List AV) (nd : List Bool) (K : KT) : (runRegion P T ops draw t H nd K).sel = .fail ∨
    ∃ t' H' nd', (runRegion P T ops draw t H nd K).sel = (K t' H' nd').sel ∧ (allT nd' = true → allT nd = true ∧ RegionOK P id ops draw t H t' H') := by
  unfold runRegion
  cases draw with
  | false =>
    rcases runOps_sound (ops := ops) hT K ops.toList 0 t H nd (by simp) (Nat.zero_le _) with h | ⟨t', H', nd', h1, h2⟩
    · exact .inl h
    · refine .inr ⟨t', H', nd', h1, fun hn => ⟨(h2 hn).1, fun σ w a Q s r q => wp_region ?_⟩⟩
      have := (h2 hn).2.wpOps s r q
      rwa [Nat.sub_zero, ← List.range_eq_range'] at this
  | true =>
    dsimp only
    cases hd : P.follows .mixedOrders && drawOK ops (qN ops) with
    | false => exact .inl rfl
    | true =>
      rw [Bool.and_eq_true] at hd
      obtain ⟨hf, hok⟩ := hd
      have hm : qN ops ≤ ops.size := qN_le ops
      dsimp only
      rcases runQ_sound (ops := ops) (H := H) hT (fun t nd => runOps P T ops (ops.toList.drop (qN ops)) t H nd K) hm (ops.toList.take (qN ops)) 0 t nd (by simp) (Nat.zero_le _) with h | ⟨t1, nd1, h1, h2⟩
      · exact .inl h
      rw [h1]
      rcases runOps_sound (ops := ops) hT K (ops.toList.drop (qN ops)) (qN ops) t1 H nd1 rfl hm with h | ⟨t', H', nd', h3, h4⟩
      · exact .inl h
      refine .inr ⟨t', H', nd', h3, fun hn => ?_⟩
      obtain ⟨h5, c⟩ := h4 hn
      obtain ⟨h6, t'', qc, e⟩ := h2 h5
      refine ⟨h6, fun σ w a Q s r q => wp_region_any hf ?_⟩
      obtain ⟨val, _, hst, hv⟩ := qc.vals
      obtain ⟨t3, c3, e3⟩ := c.conv e
      rw [hst, Nat.sub_zero] at c3
      have hnl : ∀ i, ¬ Ls (Array.replicate ops.size false) i := fun i => by
        unfold Ls
        rw [Array.getD_eq_getD_getElem?]
        by_cases hi : i < ops.size
        · simp [hi]
        · simp [hi]
      have hsm : Same w { w with drawn := w.drawn + 1 } := Same.drew w
      refine any_pre hok hm (fun i hi => hv i (Nat.zero_le _) hi) c3 ops.size _ a _ (by simp) (fun i o _ hl => absurd hl (hnl i)) ?_ (fun i _ => hnl i) (hsm.sim s) ?_ (fun x => ⟨fun i _ hl => absurd hl (hnl i), fun _ => r.getD x⟩)
        fun a' w' σ' r' d' s' f' => q a' w' σ' (e3.relL r') d' s' (hsm.fr.trans f')
      · have := List.length_filter_le (fun i => !(Array.replicate ops.size false).getD i false) (List.range ops.size)
        simp only [List.length_range] at this
        exact this
      · have := r.length; simpa using this.symm

/-! ### The whole text of a function -/
def Ends (P : Program) (todo : List Item) (t : List AV) (H : List AB) (t' : List AV) (H' : List AB) : Prop :=
  ∀ (σ : List (Nat × Nat)) (w : World) (a : Act) (b : Frame) (cs : List Frame), Sim σ H w → RelL σ t a.tmps.toList → ∃ a' w' σ' todo', Steps P (lone (b.at a todo) cs w) (lone { b.at a' todo' with mode := .returning } cs w') ∧
    RelL σ' t' a'.tmps.toList ∧ a'.defers = a.defers ∧ Sim σ' H' w' ∧ Fr σ H w σ' H' w'
theorem Ends.head {todo todo1 : List Item} {t t' : List AV} {H H' : List AB} (h : Ends P todo1 t H t' H')
    (hs : ∀ (w : World) (a : Act) (b : Frame) (cs : List Frame), step P (lone (b.at a todo) cs w) = .next (lone (b.at a todo1) cs w)) : Ends P todo t H t' H' := fun σ w a b cs s r =>
  let ⟨a', w', σ', todo', h1, h2⟩ := h σ w a b cs s r; ⟨a', w', σ', todo', .head (hs w a b cs) h1, h2⟩

theorem run_sound (hT : SoundT P T) (K : KT) : ∀ (n : Nat) (todo : List Item) (t : List AV) (H : List AB) (nd : List Bool), (run P T n todo t H nd K).sel = .fail ∨
    ∃ t' H' nd', (run P T n todo t H nd K).sel = (K t' H' nd').sel ∧ (allT nd' = true → allT nd = true ∧ Ends P todo t H t' H')
  | 0, _, _, _, _ => .inl rfl
  | n + 1, todo, t, H, nd => by
    have one : ∀ (todo1 : List Item), (∀ (w : World) (a : Act) (b : Frame) (cs : List Frame), step P (lone (b.at a todo) cs w) = .next (lone (b.at a todo1) cs w)) →
        ((run P T n todo1 t H nd K).sel = .fail ∨ ∃ t' H' nd', (run P T n todo1 t H nd K).sel = (K t' H' nd').sel ∧ (allT nd' = true → allT nd = true ∧ Ends P todo t H t' H')) := fun todo1 hs => by
      rcases run_sound hT K n todo1 t H nd with h | ⟨t', H', nd', h1, h2⟩
      · exact .inl h
      · exact .inr ⟨t', H', nd', h1, fun hn => ⟨(h2 hn).1, (h2 hn).2.head hs⟩⟩
    unfold run
    split
    · rename_i n'
      refine .inr ⟨t, H, nd, rfl, fun hn => ⟨hn, fun σ w a b cs s r => ⟨a, w, σ, [], .one step_end, r, rfl, s, Fr.refl _ _ _⟩⟩⟩
    · exact one _ fun _ _ _ _ => step_inBlock
    · exact one _ fun _ _ _ _ => step_inLoop
    · split
      · exact one _ fun _ _ _ _ => step_skip
      · exact one _ fun _ _ _ _ => step_label
      · rename_i k
        refine .inr ⟨t, H, nd, rfl, fun hn => ⟨hn, fun σ w a b cs s r => ⟨a, w, σ, _, .one step_ret, r, rfl, s, Fr.refl _ _ _⟩⟩⟩
      · exact one _ fun _ _ _ _ => step_seq
      · rename_i k _ c x y
        split
        · rename_i l v hok hv
          have hc : ∀ {σ : List (Nat × Nat)} {a : Act}, RelL σ t a.tmps.toList → a.eval c = .bool v := fun {σ a} r => by
            have := evA_rel r hok
            rw [hv] at this
            cases hx : a.eval c <;> rw [hx] at this <;> cases this
            rfl
          have two : ∀ z : Code, z = (if v then x else y) → ((run P T n (.code z :: k) t H nd K).sel = .fail ∨ ∃ t' H' nd', (run P T n (.code z :: k) t H nd K).sel = (K t' H' nd').sel ∧ (allT nd' = true → allT nd = true ∧ Ends P (.code (.cond c x y) :: k) t H t' H')) := fun z hz => by
            subst hz
            rcases run_sound hT K n (.code (if v then x else y) :: k) t H nd with h | ⟨t', H', nd', h1, h2⟩
            · exact .inl h
            · refine .inr ⟨t', H', nd', h1, fun hn => ⟨(h2 hn).1, fun σ w a b cs s r => ?_⟩⟩
              obtain ⟨a', w', σ', todo', h3, h4⟩ := (h2 hn).2 σ w a b cs s r
              exact ⟨a', w', σ', todo', .head (step_cond (hc r)) h3, h4⟩
          cases l with
          | true => cases v with
            | true => exact two _ rfl
            | false => exact two _ rfl
          | false => cases v with
            | true => exact two _ rfl
            | false => exact two _ rfl
        · exact .inl rfl
      · exact one _ fun _ _ _ _ => step_block
      · exact one _ fun _ _ _ _ => step_loop
      · split
        · rename_i k' hk
          exact one _ fun _ _ _ _ => step_exit hk
        · exact .inl rfl
      · rename_i k _ id ops draw
        rcases runRegion_sound (ops := ops) (H := H) hT id draw t nd (fun t H nd => run P T n k t H nd K) with h | ⟨t1, H1, nd1, h1, h2⟩
        · exact .inl h
        rw [h1]
        rcases run_sound hT K n k t1 H1 nd1 with h | ⟨t', H', nd', h3, h4⟩
        · exact .inl h
        refine .inr ⟨t', H', nd', h3, fun hn => ?_⟩
        obtain ⟨h5, h6⟩ := h4 hn
        obtain ⟨h7, h8⟩ := h2 h5
        refine ⟨h7, fun σ w a b cs s r => ?_⟩
        obtain ⟨e, a1, w1, ⟨he, σ1, r1, d1, s1, f1⟩, harr⟩ := h8 σ w a (fun e a1 w1 => e = .normal ∧ ∃ σ1, RelL σ1 t1 a1.tmps.toList ∧ a1.defers = a.defers ∧ Sim σ1 H1 w1 ∧ Fr σ H w σ1 H1 w1) s r
          (fun a1 w1 σ1 r1 d1 s1 f1 => ⟨rfl, σ1, r1, d1, s1, f1⟩) b k cs
        subst he
        obtain ⟨a', w', σ', todo', e1, r', d', s', f'⟩ := h6 σ1 w1 a1 b cs s1 r1
        exact ⟨a', w', σ', todo', Steps.trans harr e1, r', d'.trans d1, s', f1.trans f'⟩
      · exact .inl rfl
    · exact .inl rfl

def resOne (tm : Array Value) : ResultVar → Sem Value
  | .tmp t => pure (tm.getD t undef)
  | .cell a t => do loadVar t (← asAddr (tm.getD a undef))
theorem results_eq (fn : Func) (tm : Array Value) : results fn tm = (fn.results.mapM (resOne tm) >>= fun vs => pure (if h : vs.size = 1 then vs[0] else .tuple vs)) := by
  unfold results
  have : (fun x : ResultVar => match x with
    | .tmp t => (pure (tm.getD t undef) : Sem Value)
    | .cell a t => do loadVar t (← asAddr (tm.getD a undef))) = resOne tm := by funext x; cases x <;> rfl
  rw [← this]
  rfl
theorem resV_run {σ : List (Nat × Nat)} {t : List AV} {tm : Array Value} {w : World} (sm : Sim σ H w) (r : RelL σ t tm.toList) : ∀ (l : List ResultVar) (vs : List AV) (n : List Bool), resV P t H l = some (vs, n) → allT n = true →
    ∃ rvs, (l.mapM (resOne tm)).run P w = .ok rvs w ∧ RelL σ vs rvs
  | [], vs, n, h, _ => by
    cases h; exact ⟨[], rfl, .nil⟩
  | .tmp d :: l, vs, n, h, hn => by
    simp only [resV] at h
    split at h <;> cases h
    rename_i vs' h'
    obtain ⟨rvs, h1, h2⟩ := resV_run sm r l vs' n h' hn
    refine ⟨tm.getD d undef :: rvs, ?_, .cons (r.getD d) h2⟩
    simp only [List.mapM_cons, resOne, Sem.run_bind, Sem.run_pure, Result.andThen_ok, h1]
  | .cell a ty :: l, vs, n, h, hn => by
    simp only [resV] at h
    split at h <;> cases h
    rename_i v m vs' n' hl h'
    rw [allT_append, Bool.and_eq_true] at hn
    obtain ⟨rvs, h1, h2⟩ := resV_run sm r l vs' n' h' hn.2
    obtain ⟨ad, had, x, w', h3, h4, rfl⟩ := loadVar_gives hl hn.1 sm (r.getD a)
    refine ⟨x :: rvs, ?_, .cons h4 h2⟩
    simp only [List.mapM_cons, resOne, had, asAddr, Sem.run_bind, Sem.run_pure, Result.andThen_ok, h1, h3]

theorem undefs_rel (σ : List (Nat × Nat)) : ∀ n, RelL σ (undefs n) (List.replicate n undef)
  | 0 => .nil
  | n + 1 => .cons (.tup .nil) (undefs_rel σ n)

/-- A function's own text. -/
theorem runF_sound (hT : SoundT P T) (n : Nat) : SoundT P (runF P T n) := by
  intro f args H nd K
  unfold runF
  split
  case h_2 => exact .inl rfl
  rename_i fn hf
  split
  case h_2 => exact .inl rfl
  rename_i c hb
  rcases run_sound hT (retK P fn K) n [.code c] (args ++ undefs (fn.ntmps - args.length)) H nd with h | ⟨t', H', nd', h1, h2⟩
  · exact .inl h
  rw [h1]
  unfold retK
  cases hres : resV P t' H' fn.results.toList with
  | none => exact .inl rfl
  | some vsn =>
    obtain ⟨vs, m⟩ := vsn
    refine .inr ⟨tupV vs, H', m ++ nd', rfl, fun hmn => ?_⟩
    rw [allT_append, Bool.and_eq_true] at hmn
    obtain ⟨hm, hn⟩ := hmn
    refine ⟨(h2 hn).1, fun σ w rargs s hra cs => ?_⟩
    let b : Frame := { (default : Frame) with fn := f, kind := .normal }
    have henter : Frame.enter P f rargs .normal =
        b.at { tmps := rargs ++ Array.replicate (fn.ntmps - rargs.size) undef, defers := [] } [.code c] := by
      simp [Frame.enter, Frame.at, hf, hb, b]
    have hlen : args.length = rargs.size := by have := hra.length; simpa using this
    obtain ⟨a', w', σ', todo', h3, h4, h5, h6, h7⟩ := (h2 hn).2 σ w { tmps := rargs ++ Array.replicate (fn.ntmps - rargs.size) undef, defers := [] } b cs s (by
      simp only [Array.toList_append, Array.toList_replicate]
      rw [hlen]
      exact hra.append (undefs_rel σ _))
    obtain ⟨rvs, h8, h9⟩ := resV_run (P := P) h6 h4 _ _ _ hres hm
    have hr : (results fn a'.tmps).run P w' = .ok (if h : rvs.toArray.size = 1 then rvs.toArray[0] else .tuple rvs.toArray) w' := by
      rw [results_eq, Array.mapM_eq_mapM_toList]
      simp only [Sem.run_bind, Sem.run_map, h8, Result.andThen_ok, Sem.run_pure]
    refine ⟨.returned _, w', _, ⟨_, rfl, σ', ?_, h6, h7⟩, by rw [henter]; exact h3, rfl, rfl, h5, rfl, fn, hf, hr⟩
    cases h9 with
    | nil => exact .tup .nil
    | cons h hs => cases hs with
      | nil => exact h
      | cons h' hs' => exact .tup (.cons h (.cons h' hs'))
end
end Go.Ax

/- Two ways joined into one value. -/
namespace Go.Ax
open Go

def andT : List Bool → Bool
  | [] => true
  | [x] => x
  | x :: l => x && andT l
theorem andT_eq : ∀ (l : List Bool), andT l = allT l
  | [] => rfl
  | [x] => by simp [andT, allT]
  | x :: y :: l => by simp only [andT, allT, andT_eq (y :: l)]
def guardL (b : Bool) : List Bool → List Bool
  | [] => []
  | l => [cond b (andT l) true]
theorem guardL_true {l : List Bool} (h : allT (guardL true l) = true) : allT l = true := by
  cases l with
  | nil => rfl
  | cons x l => simp only [guardL, cond_true, allT, Bool.and_true] at h; rwa [andT_eq] at h

/-- The ways of a result joined: the value (which names no new block), and what is to be shown. A way that failed is one that must not be gone. -/
def joinR (n : Nat) : Res → Option (AV × List Bool)
  | .ret v _ nd => match below n v with
    | true => some (v, nd)
    | false => none
  | .fail => none
  | .stop _ _ _ _ => none
  | .ite b x y => match joinR n x, joinR n y with
    | some (v, nd), some (v', nd') => match mergeV b v v' with
      | some z => some (z, guardL b nd ++ guardL (!b) nd')
      | none => none
    | some (v, nd), none => some (v, b :: nd)
    | none, some (v, nd) => some (v, (!b) :: nd)
    | none, none => none

theorem joinR_spec {n : Nat} : ∀ {r : Res} {v : AV} {nd : List Bool}, joinR n r = some (v, nd) → allT nd = true →
    ∃ v' H' nd', r.sel = .ret v' H' nd' ∧ allT nd' = true ∧ below n v' = true ∧ ∀ (σ : List (Nat × Nat)) (x : Value), Rel σ v' x → Rel σ v x
  | .ret v0 H0 nd0, v, nd, h, hn => by
    simp only [joinR] at h
    split at h <;> cases h
    rename_i hb
    exact ⟨_, H0, _, rfl, hn, hb, fun _ _ r => r⟩
  | .fail, v, nd, h, hn => by simp [joinR] at h
  | .stop _ _ _ _, v, nd, h, hn => by simp [joinR] at h
  | .ite b x y, v, nd, h, hn => by
    simp only [joinR] at h
    split at h
    · rename_i v1 nd1 v2 nd2 h1 h2
      split at h <;> cases h
      rename_i hz
      rw [allT_append, Bool.and_eq_true] at hn
      cases b with
      | true =>
        obtain ⟨v', H', nd', e1, e2, e3, e4⟩ := joinR_spec h1 (guardL_true hn.1)
        exact ⟨v', H', nd', e1, e2, e3, fun σ x r => mergeV_left hz (e4 σ x r)⟩
      | false =>
        obtain ⟨v', H', nd', e1, e2, e3, e4⟩ := joinR_spec h2 (guardL_true hn.2)
        exact ⟨v', H', nd', e1, e2, e3, fun σ x r => mergeV_right hz (e4 σ x r)⟩
    · rename_i v1 nd1 h1 h2
      cases h
      simp only [allT, Bool.and_eq_true] at hn
      obtain ⟨rfl, hn⟩ := hn
      exact joinR_spec (r := x) h1 hn
    · rename_i v1 nd1 h1 h2
      cases h
      simp only [allT, Bool.and_eq_true] at hn
      obtain ⟨hb, hn⟩ := hn
      have : b = false := by simpa using hb
      subst this
      exact joinR_spec (r := y) h2 hn
    · cases h

/-- A table whose calls leave the caller's memory alone and come back with one value. -/
def quiet (T : Table) : Table := fun f args H nd K =>
  match joinR H.length (T f args (roH H) [] fun v H' nd' => .ret v H' nd') with
  | some (v, nd') => K v H (nd' ++ nd)
  | none => .fail

theorem quiet_sound {P : Program} {T : Table} (hT : SoundT P T) : SoundT P (quiet T) := by
  intro f args H nd K
  unfold quiet
  split
  case h_2 => exact .inl rfl
  rename_i v nd' hj
  refine .inr ⟨v, H, nd' ++ nd, rfl, fun hn => ?_⟩
  rw [allT_append, Bool.and_eq_true] at hn
  refine ⟨hn.2, fun σ w rargs s hra => ?_⟩
  obtain ⟨v1, H1, nd1, e1, e2, e3, e4⟩ := joinR_spec hj hn.1
  rcases hT f args (roH H) [] (fun v H' nd' => .ret v H' nd') with h | ⟨v2, H2, nd2, h1, h2⟩
  · rw [h] at e1; cases e1
  · rw [e1] at h1
    cases h1
    refine ((h2 e2).2 σ w rargs s.ro hra).mono ?_
    rintro e w' ⟨rv, rfl, σ', r1, s1, f1⟩
    obtain ⟨s', f'⟩ := s.ro_back f1
    exact ⟨rv, rfl, σ, e4 σ rv (below_rel f1.ext s.len e3 r1), s', f'⟩

/-- A choice of tables by the function. -/
theorem byF_sound {P : Program} {T : FuncId → Table} (h : ∀ g, SoundT P (T g)) : SoundT P (fun f args H nd K => T f f args H nd K) := fun f args H nd K => h f f args H nd K
def noT : Table := fun _ _ _ _ _ => .fail
theorem noT_sound (P : Program) : SoundT P noT := fun _ _ _ _ _ => .inl rfl
end Go.Ax

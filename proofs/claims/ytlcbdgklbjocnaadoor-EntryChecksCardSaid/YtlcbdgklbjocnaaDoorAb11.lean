/- The abstract view, 11: operations that make or turn memory are sound. -/
import Derived.Test.YtlcbdgklbjocnaaDoorAb10
import Derived.Test.YtlcbdgklbjocnaaDoorAb10b
set_option linter.unusedVariables false
set_option linter.unusedSimpArgs false
namespace Go.Ab
open Go Go.RowKit

variable {E : Env} {g : Ghost} {H : List AO} {w w' : World} {a : AAct} {a' : Act}

theorem parts_rel (hr : E.Rep g H w) (ha : ARel g a a') (parts : Array (Nat × Operand)) :
    ((parts.map fun (i, x) => (i, a'.eval x)).toList).length = (evParts a E.gl parts).length ∧ ∀ (k i : Nat) (v : AV), (evParts a E.gl parts)[k]? = some (i, v) → ∃ c, ((parts.map fun (i, x) => (i, a'.eval x)).toList)[k]? = some (i, c) ∧ VRel g v c := by
  refine ⟨by simp [evParts], fun k i v h => ?_⟩
  simp only [evParts, List.getElem?_map, Array.getElem?_toList] at h
  cases hp : parts[k]? with
  | none => rw [hp] at h; simp at h
  | some p =>
    rw [hp] at h; simp only [Option.map_some] at h; injection h with h; injection h with h1 h2
    subst h1; subst h2
    exact ⟨a'.eval p.2, by simp [hp], ev_rel hr ha p.2⟩

theorem mapM_places {fields : Array Field} {fs : List (Nat × TypeId)} (hsz : fields.size = fs.length) (hf : ∀ (i : Nat) (f : Field), fields[i]? = some f → fs[i]? = some (f.offset, f.type)) (hall : fs.all (fun f => (E.ty f.2).isSome) = true) :
    ∃ places : Array (Nat × Nat), (fields.mapM (m := Sem) fun f => do pure (f.offset, ← sizeOf f.type)).run E.P w = .ok places w ∧ ∀ i x, structPlace E fs i = some x → places[i]? = some x := by
  have key : ∀ (l : List Field), (∀ f ∈ l, (E.ty f.type).isSome = true) → (l.mapM (m := Sem) fun f => do pure (f.offset, ← sizeOf f.type)).run E.P w = .ok (l.map fun f => (f.offset, ((E.ty f.type).map (·.size)).getD 0)) w := by
    intro l
    induction l with
    | nil => intro _; rfl
    | cons f l ih =>
      intro h
      have hf := h f (by simp)
      cases ht : E.ty f.type with
      | none => rw [ht] at hf; simp at hf
      | some i =>
        simp only [List.mapM_cons, Sem.run_bind, sizeOf_run ht, Result.andThen_ok, Sem.run_pure, ih (fun f hf => h f (by simp [hf])), List.map_cons, ht]
        rfl
  have hmem : ∀ f ∈ fields.toList, (E.ty f.type).isSome = true := by
    intro f hfm
    obtain ⟨k, hk, rfl⟩ := List.getElem_of_mem hfm
    have hk' : k < fields.size := by simpa using hk
    have := hf k fields[k] (Array.getElem?_eq_getElem hk')
    have hm := List.mem_of_getElem? this
    have := List.all_eq_true.1 hall _ hm
    simpa using this
  refine ⟨(fields.toList.map fun f => (f.offset, ((E.ty f.type).map (·.size)).getD 0)).toArray, ?_, ?_⟩
  · rw [Array.mapM_eq_mapM_toList, Sem.run_map, key _ hmem]
    rfl
  · intro i x h
    unfold structPlace at h
    split at h
    · rename_i off ft he
      cases ht : E.ty ft with
      | none => rw [ht] at h; simp at h
      | some j =>
        rw [ht] at h; simp only [Option.map_some] at h; injection h with h; subst h
        have hlt : i < fields.size := by rw [hsz]; exact (List.getElem?_eq_some_iff.1 he).1
        have h2 := hf i fields[i] (Array.getElem?_eq_getElem hlt)
        rw [he] at h2; injection h2 with h2; injection h2 with h3 h4
        subst h3; subst h4
        simp [hlt, ht]
    · simp at h

theorem build_sound (hr : E.Rep g H w) (ha : ARel g a a') {t : TypeId} {parts : Array (Nat × Operand)} {v : AV} (h : evBuild E a t parts = some v) : Gives E.P g (Instr.build t (parts.map fun (i, x) => (i, a'.eval x))) w v := by
  unfold evBuild at h
  split at h
  · rename_i i ht
    obtain ⟨d, hd, hu⟩ := und_of ht
    obtain ⟨z, hz, hzr, hz1, hz2, hz3⟩ := zero_rel ht w
    obtain ⟨hpl, hpv⟩ := parts_rel hr ha parts
    have hzs : VRels g i.zero z.cells := ⟨by omega, fun k => hz3 g k⟩
    unfold Gives Instr.build
    simp only [Sem.run_bind, hz, Result.andThen_ok, run_und hd]
    split at h
    · rename_i fs hui
      rw [hui] at hu; obtain ⟨fields, rfl, hsz, hf, _⟩ := hu
      split at h
      · rename_i hall
        obtain ⟨places, hp1, hp2⟩ := mapM_places (w := w) hsz hf hall
        cases he : evFill (structPlace E fs) i.zero (evParts a E.gl parts) with
        | none => rw [he] at h; simp at h
        | some ys =>
          rw [he] at h; simp only [Option.map_some] at h; injection h with h; subst h
          obtain ⟨ds, e1, e2, e3⟩ := fill_sound (place' := fun i => places[i]?) hp2 _ _ hpl hpv _ _ hzs _ he
          simp only [Sem.run_bind, hp1, Result.andThen_ok, e1]
          exact ⟨_, rfl, .agg _ _ e2.1 e2.2⟩
      · simp at h
    · rename_i n e hui
      rw [hui] at hu; simp only [URel] at hu; subst hu
      split at h
      · rename_i j hj
        cases he : evFill (fun k => some (k * j.size, j.size)) i.zero (evParts a E.gl parts) with
        | none => rw [he] at h; simp at h
        | some ys =>
          rw [he] at h; simp only [Option.map_some] at h; injection h with h; subst h
          obtain ⟨ds, e1, e2, e3⟩ := fill_sound (place' := fun k => some (k * j.size, j.size)) (fun _ _ h => h) _ _ hpl hpv _ _ hzs _ he
          simp only [Sem.run_bind, sizeOf_run hj, Result.andThen_ok, e1]
          exact ⟨_, rfl, .agg _ _ e2.1 e2.2⟩
      · simp at h
    · simp at h
  · simp at h

theorem rep_len (zs : List AV) (n : Nat) : (rep zs n).length = n * zs.length := by
  induction n with
  | zero => simp [rep]
  | succ n ih => simp [rep, ih, Nat.succ_mul]; omega

theorem rep_get (zs : List AV) (hz : 0 < zs.length) : ∀ (n k : Nat), k < n * zs.length → (rep zs n)[k]? = zs[k % zs.length]? := by
  intro n
  induction n with
  | zero => intro k h; simp at h
  | succ n ih =>
    intro k h
    simp only [rep]
    by_cases hk : k < zs.length
    · rw [List.getElem?_append_left hk, Nat.mod_eq_of_lt hk]
    · rw [List.getElem?_append_right (by omega), ih (k - zs.length) (by rw [Nat.succ_mul] at h; omega)]
      congr 1
      rw [Nat.mod_eq_sub_mod (by omega : k ≥ zs.length)]

theorem buildSlice_sound (hr : E.Rep g H w) (ha : ARel g a a') {t : TypeId} {n : Nat} {parts : Array (Nat × Operand)} {xs : List AV} (h : evBuildSlice E a t n parts = some xs) :
    ∃ (cs : Array Value) (T : TypeId), (Instr.buildSlice t n (parts.map fun (i, x) => (i, a'.eval x))).run E.P w = .ok (.slice (some ⟨w.heap.size, 0, none⟩) n n) (w.alloc (.cells cs T)) ∧ VRels g xs cs := by
  unfold evBuildSlice at h
  split at h
  · rename_i i ht
    obtain ⟨d, hd, hu⟩ := und_of ht
    split at h
    · rename_i e hui
      rw [hui] at hu; simp only [URel] at hu; subst hu
      split at h
      · rename_i j hj
        split at h
        · rename_i hb
          obtain ⟨z, hz, hzr, hz1, hz2, hz3⟩ := zero_rel hj w
          obtain ⟨hpl, hpv⟩ := parts_rel hr ha parts
          have hzs : VRels g (rep j.zero n) ((Array.range (n * j.size)).map (fun k => z.cells[k % z.cells.size]!)) := by
            refine ⟨by simp [rep_len, hz2], fun k => ?_⟩
            by_cases hk : k < n * j.size
            · have h1 := rep_get j.zero (by omega) n k (by rw [hz2]; exact hk)
              have h2 := hz3 g (k % j.zero.length)
              rw [List.getD_eq_getElem?_getD] at h2 ⊢
              rw [h1]
              have h3 : ((Array.range (n * j.size)).map (fun k => z.cells[k % z.cells.size]!)).getD k undef = z.cells.getD (k % j.zero.length) undef := by
                have hlt : k % z.cells.size < z.cells.size := Nat.mod_lt _ (by omega)
                rw [Array.getD_eq_getD_getElem?, Array.getElem?_map, Array.getElem?_range, if_pos hk]
                simp only [Option.map_some, Option.getD_some]
                rw [hz2, ← hz1]
                simp [Array.getD_eq_getD_getElem?, hlt]
              rw [h3]; exact h2
            · rw [List.getD_eq_getElem?_getD, List.getElem?_eq_none (by rw [rep_len, hz2]; omega)]; exact .top _
          obtain ⟨ds, e1, e2, e3⟩ := fill_sound (place' := fun k => some (k * j.size, j.size)) (fun _ _ h => h) _ _ hpl hpv _ _ hzs _ h
          refine ⟨ds, e, ?_, e2⟩
          unfold Instr.buildSlice
          simp only [Sem.run_bind, run_und hd, Result.andThen_ok, sizeOf_run hj]
          rw [if_neg (by omega)]
          by_cases hn : n * j.size = 0
          · simp only [hn, if_true, Sem.run_pure, Result.andThen_ok, Sem.run_bind]
            rw [hn] at e1
            have e0 : ∀ f : Nat → Value, (Array.range 0).map f = #[] := fun f => by simp
            simp only [e0] at e1 ⊢
            rw [e1]
            simp [newRow]
          · simp only [hn, if_false, Sem.run_pure, Result.andThen_ok, Sem.run_bind, hz]
            rw [e1]
            simp [newRow]
        · simp at h
      · simp at h
    · simp at h
  · simp at h

theorem own_set_other {i j : Nat} (hne : j ≠ i) {o : AO} : own g (H.set j o) i = own g H i := by
  unfold own
  rw [List.getElem?_set_ne hne]

/-- An object that is no row of cells is put in another's place, block for block. -/
theorem Rep.put {n0 : Nat} {w0 : World} {gl : Nat → List AV} (hr : Rep n0 w0 gl g H w) {id b : Nat} {o o2 : AO} {ob : Obj} {w' : World} (hH : H[id]? = some o) (hb : g.phi[id]? = some b)
    (ho : own g H id = some b) (ho2 : ∀ H' : List AO, H'[id]? = some o2 → own g H' id = some b) (hnc : ∀ c T fz, w.heap[b]? ≠ some (.cells c T fz)) (hw : w'.heap = w.heap.setIfInBounds b ob) (h1 : w'.os = w.os) (h2 : w'.tape = w.tape) (h3 : w'.output = w.output)
    (hn : ORep g n0 w' id o2) : Rep n0 w0 gl g (H.set id o2) w' := by
  obtain ⟨hlt, hn0⟩ := hr.own_lt ho
  have hid : id < H.length := (List.getElem?_eq_some_iff.1 hH).1
  have hold : ∀ k, k ≠ b → w'.heap[k]? = w.heap[k]? := fun k hk => by rw [hw, Array.getElem?_setIfInBounds_ne (by omega)]
  have hown : ∀ i, own g (H.set id o2) i = own g H i := by
    intro i
    by_cases e : id = i
    · subst e; rw [ho, ho2 _ (List.getElem?_set_self hid)]
    · exact own_set_other e
  refine ⟨⟨h1.trans hr.below.os, h2.trans hr.below.tape, h3.trans hr.below.output, by rw [hw]; simp; exact hr.below.size, fun k hk => (hold k (by omega)).trans (hr.below.block k hk)⟩, hr.n0le, fun b' o v h => ?_, by simp [hr.len], fun t e ht => hr.beyond t e (by simpa using ht), fun i o h => ?_, fun i j b' hi hj => ?_, hr.glob⟩
  · have hc := hr.know b' o v h
    have hne : b' ≠ b := by
      rintro rfl
      simp only [World.cell?] at hc
      first
        | (simp at hc; done)
        | (split at hc
           · rename_i c T fz he; exact hnc _ _ _ he
           · simp at hc)
    simpa [World.cell?, hold b' hne] using hc
  · by_cases e : id = i
    · subst e
      rw [List.getElem?_set_self hid] at h
      injection h with h; subst h; exact hn
    · rw [List.getElem?_set_ne e] at h
      refine ORep.frame h (hr.objs i o h) (GLe.refl g) (fun b' hb' => hold b' ?_) (fun _ _ _ h => h) (fun _ h => h)
      rintro rfl
      exact e (hr.apart _ _ _ ho hb')
  · rw [hown] at hi hj
    exact hr.apart i j b' hi hj

theorem evHeap_sound {md : Nat → Nat} (hr : E.Rep g H w) (ha : ARel g a a') {o : Oper} {v : AV} {H' : List AO} (h : evHeap E md a H o = some (v, H')) : HGives E g (execOp a'.eval o) w v H' := by
  obtain ⟨dst, op, ty, pos, after, guard⟩ := o
  have ev := fun x => ev_rel hr ha x
  cases op <;> simp only [evHeap] at h <;> simp only [execOp] <;> try (simp at h; done)
  case alloc t =>
    split at h
    · rename_i i ht
      injection h with h; injection h with h1 h2; subst h1; subst h2
      obtain ⟨z, hz, hzr, hz1, hz2, hz3⟩ := zero_rel ht w
      obtain ⟨r1, r2⟩ := new_cells hr (Grew.alloc w (.cells z.cells t)) (xs := i.zero) (by omega) (fun k => hz3 g k) (fun k _ h => by simp at h)
      exact HGives.of_value (by simp [Instr.alloc, hz, newVar, newRow]) (g.push_le _) r1 (.ref _ _ _ r2)
    · simp at h
  case box t x =>
    split at h
    · rename_i i ht
      split at h
      · rename_i hc
        have hcr := cells_rel (ev x) (AV.ne_top hc.1)
        split at h
        · injection h with h; injection h with h1 h2; subst h1; subst h2
          have hg := Grew.alloc w (.cells (a'.eval x).cells t)
          obtain ⟨k1, k2⟩ := known_rel hr (cs := (a'.eval x).cells) (n := (a'.eval x).cells.size) (xs := cellsOf (a.ev E.gl x)) (by rw [hcr.1]; exact Nat.le_refl _) (Nat.le_refl _) hcr.2
          exact HGives.of_value (by simp [Instr.box, newVar, newRow]) (g.learn_le _ _) (hr.alloc_known hg _) (.row _ _ 0 _ k1 k2)
        · injection h with h; injection h with h1 h2; subst h1; subst h2
          obtain ⟨r1, r2⟩ := new_cells hr (Grew.alloc w (.cells (a'.eval x).cells t)) (xs := cellsOf (a.ev E.gl x)) (by rw [hcr.1]; exact Nat.le_refl _) hcr.2 (fun k _ h => by simp at h)
          exact HGives.of_value (by simp [Instr.box, newVar, newRow]) (g.push_le _) r1 (.ref _ _ _ r2)
      · simp at h
    · simp at h
  case build t parts =>
    cases hb : evBuild E a t parts with
    | none => rw [hb] at h; simp at h
    | some u =>
      rw [hb] at h; simp only [Option.map_some] at h; injection h with h; injection h with h1 h2; subst h1; subst h2
      obtain ⟨c, c1, c2⟩ := build_sound hr ha hb
      exact HGives.of_value c1 (GLe.refl g) hr c2
  case buildSlice t n parts =>
    split at h
    · rename_i xs hb
      obtain ⟨cs, T, c1, c2⟩ := buildSlice_sound hr ha hb
      have hg := Grew.alloc w (.cells cs T)
      split at h
      · injection h with h; injection h with h1 h2; subst h1; subst h2
        obtain ⟨r1, r2⟩ := new_cells hr hg (xs := xs) (by rw [c2.1]; exact Nat.le_refl _) c2.2 (fun k _ h => by simp at h)
        exact HGives.of_value c1 (g.push_le _) r1 (.msl _ _ _ _ _ _ r2 (Nat.le_refl _) (.inr rfl))
      · injection h with h; injection h with h1 h2; subst h1; subst h2
        obtain ⟨k1, k2⟩ := known_rel hr (cs := cs) (n := cs.size) (xs := xs) (by rw [c2.1]; exact Nat.le_refl _) (Nat.le_refl _) c2.2
        exact HGives.of_value c1 (g.learn_le _ _) (hr.alloc_known hg _) (.sl _ _ _ _ 0 _ _ (Nat.le_refl _) k1 k2 (by show n - n = 0; omega))
    · simp at h
  case store t p x =>
    split at h
    · rename_i i ht
      split at h
      · rename_i hc
        cases hw : writeCells H (cellsOf (a.ev E.gl x)) (a.ev E.gl p) with
        | none => rw [hw] at h; simp at h
        | some H2 =>
          rw [hw] at h; simp only [Option.map_some] at h; injection h with h; injection h with h1 h2; subst h1; subst h2
          obtain ⟨w', s1, s2⟩ := store_sound hr ht (ev p) (ev x) (AV.ne_top hc.1) hc.2 hw
          exact ⟨.skip, w', g, by rw [Sem.run_bind, s1]; rfl, GLe.refl g, s2, .inr ⟨rfl, rfl⟩⟩
      · simp at h
    · simp at h
  case convert src dst x =>
    split at h
    · rename_i i j s hsi hdj hxe
      have hx := ev x
      rw [hxe] at hx
      obtain ⟨ds, hds, hus⟩ := und_of hsi
      obtain ⟨dd, hdd, hud⟩ := und_of hdj
      split at h
      · rename_i e hui huj
        rw [hui] at hus; rw [huj] at hud; simp only [URel] at hus hud; subst hus; subst hud
        split at h
        · rename_i y1 y2 y3 he
          obtain ⟨de, hde, hue⟩ := und_of he
          simp only [URel] at hue; subst hue
          have hrun := Lib.run_convert_string_bytes (P := E.P) w src dst e ⟨s.toArray⟩ hds hdd hde
          rw [← hx.str_inv] at hrun
          have hg := bytesWorld_grew w e ⟨s.toArray⟩
          obtain ⟨b1, b2⟩ := bytes_rel (g := g) w e ⟨s.toArray⟩
          have hs2 : (⟨s.toArray⟩ : ByteArray).data.toList = s := by simp
          rw [hs2] at b1 b2
          have hsz : (⟨s.toArray⟩ : ByteArray).size = s.length := by simp [ByteArray.size]
          have hcap : s.length ≤ grownCap w (⟨s.toArray⟩ : ByteArray).size 0 e := by have := grownCap_ge w (⟨s.toArray⟩ : ByteArray).size 0 e; omega
          rw [hsz] at hrun
          rw [hsz] at hcap
          split at h
          · injection h with h; injection h with h1 h2; subst h1; subst h2
            obtain ⟨r1, r2⟩ := new_cells hr hg (xs := bytesAV s) b2 b1 (fun k hk h => by simp at h; omega)
            exact HGives.of_value hrun (g.push_le _) r1 (.msl _ _ _ _ _ _ r2 hcap (.inr rfl))
          · injection h with h; injection h with h1 h2; subst h1; subst h2
            obtain ⟨k1, k2⟩ := known_rel hr (cs := Lib.bytesCells w e ⟨s.toArray⟩) (n := (Lib.bytesCells w e ⟨s.toArray⟩).size) (xs := bytesAV s) b2 (Nat.le_refl _) b1
            exact HGives.of_value hrun (g.learn_le _ _) (hr.alloc_known hg _) (.sl _ _ _ _ 0 _ _ hcap k1 k2 trivial)
        · simp at h
      · simp at h
    · rename_i i j id n hsi hdj hxe
      have hx := ev x
      rw [hxe] at hx
      obtain ⟨ds, hds, hus⟩ := und_of hsi
      obtain ⟨dd, hdd, hud⟩ := und_of hdj
      split at h
      · rename_i e' e hui huj
        rw [hui] at hus; rw [huj] at hud; simp only [URel] at hus hud; subst hus; subst hud
        split at h
        · rename_i hsd
          subst hsd
          have hdd2 := hdd
          rw [hds] at hdd2; injection hdd2 with hdd2; injection hdd2 with hdd2; subst hdd2
          split at h
          · rename_i y1 y2 y3 xs he hH
            obtain ⟨de, hde, hue⟩ := und_of he
            simp only [URel] at hue; subst hue
            split at h
            · rename_i hlen
              obtain ⟨hlen, hpos⟩ := hlen
              injection h with h; injection h with h1 h2; subst h1; subst h2
              generalize a'.eval x = u at hx ⊢
              cases hx with
              | msl _ _ _ b off' cap hb hn ho =>
                obtain rfl : off' = 0 := by rcases ho with h | h <;> omega
                obtain ⟨b', cs, T, fz, p1, p2, p3, p4, p5, p6, p7⟩ := hr.objs _ _ hH
                rw [hb] at p1; injection p1 with p1; subst p1
                obtain ⟨w2, q1, ⟨fz2, q2⟩, q3, q4, q5, q6, q7⟩ := run_markStringish (P := E.P) (o := 0) p3
                have hrun : (convert src src (.slice (some ⟨b, 0, none⟩) n cap)).run E.P w = .ok (.slice (some ⟨b, 0, none⟩) n cap) w2 := by
                  unfold convert
                  simp only [Sem.run_bind, run_und hds, run_und hdd, run_und hde, Result.andThen_ok]
                  simp only [beq_self_eq_true, Sem.run_bind, q1, Result.andThen_ok, Sem.run_pure]
                have hR := Rep.know_cells hr hH hb p3 q2 q3 q4 q5 q6 q7
                refine HGives.of_value hrun (g.learn_le _ _) hR (.sl _ _ _ _ 0 _ (fun k => cs.getD k undef) hn ?_ (fun k => (p5 k).mono (g.learn_le _ _)) trivial)
                intro k hk
                rw [Nat.zero_add]
                show (if b = b then (match g.K b k with | some v => some v | none => if k < xs.length then cs[k]? else none) else g.K b k) = _
                rw [if_pos rfl, p7 k]
                simp only
                rw [if_pos hk, Array.getElem?_eq_getElem (by omega), Array.getD_eq_getD_getElem?, Array.getElem?_eq_getElem (by omega)]; rfl
            · simp at h
          · simp at h
        · simp at h
      · simp at h
    · simp at h
  case range t x =>
    split at h
    · rename_i i s ht hxe
      have hx := ev x
      rw [hxe] at hx
      obtain ⟨d, hd, hu⟩ := und_of ht
      split at h
      · rename_i hui
        rw [hui] at hu; simp only [URel] at hu; subst hu
        injection h with h; injection h with h1 h2; subst h1; subst h2
        have hp : (g.push w.heap.size).phi[H.length]? = some w.heap.size := by
          show (g.phi ++ [w.heap.size])[H.length]? = _
          rw [← hr.len, List.getElem?_append_right (Nat.le_refl _), Nat.sub_self]; rfl
        have hg := Grew.alloc w (.stringIter ⟨s.toArray⟩ 0)
        refine HGives.of_value (w' := w.alloc (.stringIter ⟨s.toArray⟩ 0)) (c := .pointer (some ⟨w.heap.size, 0, none⟩)) ?_ (g.push_le _) (hr.alloc hg _ (by simp) ⟨w.heap.size, _, hp, Nat.le_trans hr.n0le hr.below.size, hg.new, by simp⟩) (.ref _ _ _ hp)
        rw [hx.str_inv]
        simp [Instr.range, run_und hd]
      · simp at h
    · simp at h
  case next it str =>
    cases str <;> simp only at h <;> try (simp at h; done)
    split at h
    · rename_i id hxe
      have hx := ev it
      rw [hxe] at hx
      split at h
      · rename_i s pos hH
        obtain ⟨b, t, h1, h2, h3, h4⟩ := hr.objs _ _ hH
        have ht : t = ⟨s.toArray⟩ := by cases t; simp at h4; subst h4; simp
        subst ht
        have hc : a'.eval it = .pointer (some ⟨b, 0, none⟩) := by
          generalize a'.eval it = u at hx
          cases hx with
          | ref _ _ b' e => rw [h1] at e; injection e with e; subst e; rfl
        have hsz : (⟨s.toArray⟩ : ByteArray).size = s.length := by simp [ByteArray.size]
        have hown : own g H id = some b := by unfold own; rw [hH]; exact h1
        have hget : (getObj b).run E.P w = .ok (.stringIter ⟨s.toArray⟩ pos) w := by simp [getObj, Sem.run, h3]
        split at h
        · rename_i hlt
          injection h with h; injection h with e1 e2; subst e1; subst e2
          have hset : (setObj b (.stringIter ⟨s.toArray⟩ (pos + (Utf8.decode ⟨s.toArray⟩ pos).2))).run E.P w = .ok () { w with heap := w.heap.setIfInBounds b (.stringIter ⟨s.toArray⟩ (pos + (Utf8.decode ⟨s.toArray⟩ pos).2)) } := by simp [setObj, Sem.run, h3]
          refine HGives.of_value (w' := { w with heap := w.heap.setIfInBounds b (.stringIter ⟨s.toArray⟩ (pos + (Utf8.decode ⟨s.toArray⟩ pos).2)) }) (c := .tuple #[.bool true, goInt pos, .int .i32 ((Utf8.decode ⟨s.toArray⟩ pos).1 : Nat)]) ?_ (GLe.refl g) (Rep.put hr hH h1 hown (fun H' hh => by unfold own; rw [hh]; exact h1) (fun c T fz => by rw [h3]; simp) rfl rfl rfl rfl ⟨b, ⟨s.toArray⟩, h1, h2, ?_, rfl⟩)
            (.tup _ _ rfl (fun k => match k with | 0 => .bool _ | 1 => .int _ _ | 2 => .int _ _ | _ + 3 => .top _))
          · rw [hc]
            simp only [Instr.next, Sem.run_bind, hget, Result.andThen_ok]
            rw [if_pos (by rw [hsz]; exact hlt), Sem.run_bind, hset]
            rfl
          · show (w.heap.setIfInBounds b _)[b]? = _
            rw [Array.getElem?_setIfInBounds_self, if_pos (Array.getElem?_eq_some_iff.1 h3).1]
        · rename_i hlt
          injection h with h; injection h with e1 e2; subst e1; subst e2
          refine HGives.of_value (w' := w) (c := .tuple #[.bool false]) ?_ (GLe.refl g) hr (.tup _ _ rfl (fun k => match k with | 0 => .bool _ | _ + 1 => .top _))
          rw [hc]
          simp only [Instr.next, Sem.run_bind, hget, Result.andThen_ok]
          rw [if_neg (by rw [hsz]; exact hlt)]
          rfl
      · simp at h
    · simp at h

end Go.Ab

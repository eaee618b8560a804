/- The abstract view, 5: what the computing operations come to, they come to. -/
import Derived.Test.YtlcbdgklbjocnaaDoorAb4
set_option linter.unusedVariables false
set_option linter.unusedSimpArgs false
namespace Go.Ab
open Go Go.RowKit

/-- An operation that computes: a value, the world as it was. -/
def Gives (P : Program) (g : Ghost) (s : Sem Value) (w : World) (v : AV) : Prop := ∃ c, s.run P w = .ok c w ∧ VRel g v c

theorem unbytes_rel {g : Ghost} : ∀ (xs : List AV) (s : List UInt8), unbytes xs = some s → ∀ (vs : Nat → Value), (∀ i, i < xs.length → VRel g (xs.getD i .top) (vs i)) → ∃ ns : List Int, ns.length = xs.length ∧ (∀ i, i < xs.length → vs i = .int .u8 (ns.getD i 0)) ∧ s = ns.map (fun n => UInt8.ofNat n.toNat) := by
  intro xs
  induction xs with
  | nil => intro s h vs hv; simp only [unbytes] at h; injection h with h; subst h; exact ⟨[], rfl, fun i hi => by simp at hi, rfl⟩
  | cons x xs ih =>
    intro s h vs hv
    have h0 := hv 0 (by simp)
    simp only [List.getD_cons_zero] at h0
    cases x with
    | int k n =>
      cases k <;> simp only [unbytes] at h <;> try (simp at h; done)
      cases he : unbytes xs with
      | none => rw [he] at h; simp at h
      | some t =>
        rw [he] at h; simp only [Option.map_some] at h; injection h with h; subst h
        obtain ⟨ns, h1, h2, h3⟩ := ih t he (fun i => vs (i + 1)) (fun i hi => by have := hv (i + 1) (by simp; omega); simpa using this)
        refine ⟨n :: ns, by simp [h1], fun i hi => ?_, by simp [h3]⟩
        cases i with
        | zero => simpa using h0.int_inv
        | succ i => simpa using h2 i (by simpa using hi)
    | _ => simp [unbytes] at h

theorem run_bytes {P : Program} {w : World} {b o : Nat} {ns : List Int} {vs : Nat → Value} {cap : Nat} (hc : ∀ i, i < ns.length → w.cell? ⟨b, o + i, none⟩ = some (vs i)) (h : ∀ i, i < ns.length → vs i = .int .u8 (ns.getD i 0)) :
    ∃ s : ByteArray, (Conv.bytesToString (.slice (some ⟨b, o, none⟩) ns.length cap)).run P w = .ok (.string s) w ∧ s.data.toList = ns.map (fun n => UInt8.ofNat n.toNat) := by
  have hl := loadCells_run (P := P) hc
  have hm : (List.range ns.length).map vs = ns.map (Value.int .u8) := by
    apply List.ext_getElem (by simp)
    intro i h1 h2
    simp at h1 h2
    simp [h i h2, List.getD_eq_getElem?_getD, List.getElem?_eq_getElem h2]
  rw [hm] at hl
  refine ⟨_, run_bytesToString w _ _ _ ns hl, ?_⟩
  have key : ∀ (ns : List Int) (acc : ByteArray), (ns.foldl (fun r n => r.push (UInt8.ofNat n.toNat)) acc).data.toList = acc.data.toList ++ ns.map (fun n => UInt8.ofNat n.toNat) := by
    intro ns
    induction ns with
    | nil => intro acc; simp
    | cons n ns ih => intro acc; simp [ih]
  simpa using key ns ByteArray.empty

theorem part_agg {E : Env} {t : TypeId} {i : TyI} (ht : E.ty t = some i) {g : Ghost} {xs : List AV} {cs : Array Value} (hl : cs.size = xs.length) (hv : ∀ k, VRel g (xs.getD k .top) (cs.getD k undef)) (off : Nat) (hb : off + i.size ≤ xs.length) (w : World) :
    Gives E.P g (part t cs off) w (mkVal i ((xs.drop off).take i.size)) := by
  unfold Gives
  simp only [part, Sem.run_bind, isAgg_run ht, Result.andThen_ok]
  unfold mkVal
  cases hi : i.isAgg with
  | true =>
    simp only [if_true]
    rw [Sem.run_bind, sizeOf_run ht, Result.andThen_ok]
    refine ⟨_, rfl, .agg _ _ (by simp; omega) fun k => ?_⟩
    by_cases hk : k < i.size
    · have := hv (off + k)
      simp only [List.getD_eq_getElem?_getD, Array.getD_eq_getD_getElem?, List.getElem?_take, List.getElem?_drop, Array.getElem?_extract, hk, if_true] at this ⊢
      rw [if_pos (by omega)]; exact this
    · have : ((xs.drop off).take i.size).getD k .top = .top := by simp [List.getD_eq_getElem?_getD, List.getElem?_take, hk]
      rw [this]; exact .top _
  | false =>
    simp only [if_false, Bool.false_eq_true]
    obtain ⟨z, inf, _, _, _, _, _, _, _, hz, _⟩ := (E.ok t i ht).info
    have h1 := (hz hi).2
    have := hv off
    rw [Array.getD_eq_getD_getElem?, Array.getElem?_eq_getElem (show off < cs.size by omega)] at this
    rw [Array.getElem?_eq_getElem (show off < cs.size by omega)]
    refine ⟨cs[off], rfl, ?_⟩
    rw [List.headD_eq_head?_getD, List.head?_take, if_neg (by omega), List.head?_drop]
    simpa [List.getD_eq_getElem?_getD] using this

theorem bound_run {E : Env} {g : Ghost} {H : List AO} {w : World} (hr : E.Rep g H w) {a : AAct} {a' : Act} (ha : ARel g a a') {x : Operand} {k : Nat} {d : Nat} (h : evBound a E.gl (some x) d = some k) :
    ∃ q, a'.eval x = .int q (k : Int) := by
  have hv := ev_rel hr ha x
  simp only [evBound] at h
  split at h
  · rename_i q n he
    rw [he] at hv
    split at h
    · injection h with h; subst h
      exact ⟨q, by rw [hv.int_inv, Int.toNat_of_nonneg (by assumption)]⟩
    · simp at h
  · simp at h

theorem sliceBound_run {P : Program} {w : World} {q : IntKind} {k y : Nat} (h : k ≤ y) (code : BoundsCode) : (Instr.sliceBound (.int q (k : Int)) y code).run P w = .ok k w := by
  simp only [Instr.sliceBound, asIntOf, Sem.run_bind, Sem.run_pure, Result.andThen_ok]
  rw [if_pos (by omega)]
  simp

/-- The bounds of a slice expression without a third. -/
theorem sliceBounds_run {E : Env} {g : Ghost} {H : List AO} {w : World} (hr : E.Rep g H w) {a : AAct} {a' : Act} (ha : ARel g a a') {lo hi : Option Operand} {l h len cap : Nat} (isSlice : Bool)
    (hl : evBound a E.gl lo 0 = some l) (hh : evBound a E.gl hi len = some h) (h1 : l ≤ h) (h2 : h ≤ cap) :
    (Instr.sliceBounds isSlice len cap (lo.map a'.eval) (hi.map a'.eval) none).run E.P w = .ok (l, h, cap) w := by
  unfold Instr.sliceBounds
  cases hi with
  | none =>
    simp only [evBound] at hh; injection hh with hh; subst hh
    cases lo with
    | none => simp only [evBound] at hl; injection hl with hl; subst hl; simp
    | some x =>
      obtain ⟨q, hq⟩ := bound_run hr ha hl
      simp [hq, sliceBound_run h1]
  | some y =>
    obtain ⟨r, hy⟩ := bound_run hr ha hh
    cases lo with
    | none => simp only [evBound] at hl; injection hl with hl; subst hl; simp [hy, sliceBound_run h2]
    | some x =>
      obtain ⟨q, hq⟩ := bound_run hr ha hl
      simp [hq, hy, sliceBound_run h1, sliceBound_run h2]

theorem mul_le_of {h n s : Nat} (k : h ≤ n) : h * s ≤ n * s := Nat.mul_le_mul_right s k

theorem cut_row {g : Ghost} {xs : List AV} {b o : Nat} {vs : Nat → Value} (hk : ∀ i, i < xs.length → g.K b (o + i) = some (vs i)) (hv : ∀ i, VRel g (xs.getD i .top) (vs i)) (p q : Nat) :
    (∀ i, i < ((xs.take q).drop p).length → g.K b (o + p + i) = some (vs (p + i))) ∧ ∀ i, VRel g (((xs.take q).drop p).getD i .top) (vs (p + i)) := by
  refine ⟨fun i hi => ?_, fun i => ?_⟩
  · simp at hi; have := hk (p + i) (by omega); rw [← this]; congr 1; omega
  · simp only [List.getD_eq_getElem?_getD, List.getElem?_drop, List.getElem?_take]
    split
    · have := hv (p + i); simpa only [List.getD_eq_getElem?_getD] using this
    · exact .top _

theorem slice_sound {E : Env} {g : Ghost} {H : List AO} {w : World} (hr : E.Rep g H w) {a : AAct} {a' : Act} (ha : ARel g a a') {t : TypeId} {x : AV} {c : Value} (hx : VRel g x c) {lo hi : Option Operand} {v : AV}
    (h : evSlice E t x (evBound a E.gl lo 0) (fun n => evBound a E.gl hi n) = some v) : Gives E.P g (Instr.sliceAt t c (lo.map a'.eval) (hi.map a'.eval) none) w v := by
  unfold evSlice at h
  cases ht : E.ty t with
  | none => rw [ht] at h; simp at h
  | some ti =>
    rw [ht] at h
    obtain ⟨d, hd, hu⟩ := und_of ht
    obtain ⟨u, tsz, tby, tz⟩ := ti
    simp only at h hu
    unfold Gives Instr.sliceAt
    simp only [Sem.run_bind, run_und hd, Result.andThen_ok]
    cases u <;> try (simp at h; done)
    case str =>
      simp only [URel] at hu; subst hu
      cases x <;> try (simp at h; done)
      rename_i s
      simp only at h
      split at h
      · rename_i l k hl hk
        split at h
        · rename_i hle; injection h with h; subst h
          rw [hx.str_inv]
          simp only [Instr.slice, Sem.run_bind, run_und hd, Result.andThen_ok, Option.isSome_none, Bool.false_eq_true, if_false]
          have hsz : (⟨s.toArray⟩ : ByteArray).size = s.length := by simp [ByteArray.size]
          rw [hsz, sliceBounds_run hr ha false hl hk hle.1 hle.2]
          exact ⟨_, rfl, .str _ _ (by rw [ByteArray.data_extract]; simp [List.drop_take])⟩
        · simp at h
      · simp at h
    case sl e =>
      simp only [URel] at hu; subst hu
      cases x <;> try (simp at h; done)
      case sl n xs tok =>
        simp only at h
        split at h
        · rename_i i l k hi hl hk
          split at h
          · rename_i hle; injection h with h; subst h
            obtain ⟨h1, h2, h3⟩ := hle
            cases hx with
            | nsl tok hn =>
              have hk0 : k = 0 := by omega
              subst hk0
              have hl0 : l = 0 := by omega
              subst hl0
              simp only [Instr.slice, Sem.run_bind, run_und hd, Result.andThen_ok]
              rw [sliceBounds_run hr ha true hl hk h1 (Nat.le_refl _)]
              simp only [Result.andThen_ok, sizeOf_run hi, Sem.run_bind]
              exact ⟨_, rfl, by simpa using VRel.nsl _ hn⟩
            | sl _ _ _ b o cap vs hn hk' hv ht =>
              simp only [Instr.slice, Sem.run_bind, run_und hd, Result.andThen_ok]
              rw [sliceBounds_run hr ha true hl hk h1 (Nat.le_trans h2 hn)]
              simp only [Result.andThen_ok, sizeOf_run hi, Sem.run_bind, Option.map_some, add_none]
              have hc := cut_row hk' hv (l * i.size) (k * i.size)
              have hlen : ((xs.take (k * i.size)).drop (l * i.size)).length = (k - l) * i.size := by
                have := mul_le_of (s := i.size) h2
                simp [Nat.sub_mul]; omega
              have htok : ∀ o', (l ≠ cap → o' = o + l * i.size) → TokOk g (if k = n then tok else .ro) b (o' + ((xs.take (k * i.size)).drop (l * i.size)).length) (cap - l - (k - l)) := by
                intro o' ho'
                by_cases hkn : k = n
                · subst hkn
                  rw [if_pos rfl]
                  have hsp : cap - l - (k - l) = cap - k := by omega
                  rw [hsp, hlen]
                  cases tok with
                  | ro => trivial
                  | full => exact ht
                  | «at» t e =>
                    obtain ⟨ti, g1, g2, g3⟩ := ht
                    refine ⟨ti, g1, g2, ?_⟩
                    rcases g3 with g3 | ⟨g3, g4⟩
                    · exact .inl g3
                    · by_cases hlc : l = cap
                      · left; omega
                      · right
                        refine ⟨g3, ?_⟩
                        rw [ho' hlc, g4, h3]
                        have := mul_le_of (s := i.size) h1
                        rw [Nat.sub_mul]; omega
                · rw [if_neg hkn]; trivial
              by_cases hlc : cap = l
              · rw [if_pos hlc]
                refine ⟨_, rfl, .sl (k - l) _ _ b o (cap - l) (fun i' => vs (l * i.size + i')) (by omega) (fun i' hi' => ?_) hc.2 (htok o (fun e => absurd hlc.symm e))⟩
                rw [hlen] at hi'
                have : k - l = 0 := by omega
                simp [this] at hi'
              · rw [if_neg hlc]
                exact ⟨_, rfl, .sl (k - l) _ _ b (o + l * i.size) (cap - l) (fun i' => vs (l * i.size + i')) (by omega) (fun i' hi' => hc.1 i' hi') hc.2 (htok _ (fun _ => rfl))⟩
          · simp at h
        · simp at h
      case msl id off n =>
        simp only at h
        split at h
        · rename_i i l k hi hl hk
          split at h
          · rename_i hle; injection h with h; subst h
            obtain ⟨h1, h2⟩ := hle
            cases hx with
            | msl _ _ _ b off' cap hp hn ho =>
              simp only [Instr.slice, Sem.run_bind, run_und hd, Result.andThen_ok]
              rw [sliceBounds_run hr ha true hl hk h1 (Nat.le_trans h2 hn)]
              simp only [Result.andThen_ok, sizeOf_run hi, Sem.run_bind, Option.map_some, add_none]
              by_cases hlc : cap = l
              · rw [if_pos hlc]
                exact ⟨_, rfl, .msl id _ _ b _ _ hp (by omega) (.inl (by omega))⟩
              · rw [if_neg hlc]
                refine ⟨_, rfl, .msl id _ _ b _ _ hp (by omega) ?_⟩
                rcases ho with ho | ho
                · left; omega
                · right; omega
          · simp at h
        · simp at h
    case arr n e =>
      simp only [URel] at hu; subst hu
      cases x <;> try (simp at h; done)
      case ref id off =>
        simp only at h
        split at h
        · rename_i i l k hi hl hk
          split at h
          · rename_i hle; injection h with h; subst h
            obtain ⟨h1, h2⟩ := hle
            cases hx with
            | ref _ _ b hp =>
              simp only [Instr.sureAddr, Sem.run_bind, Sem.run_pure, Result.andThen_ok]
              rw [sliceBounds_run hr ha false hl hk h1 h2]
              simp only [Result.andThen_ok, sizeOf_run hi, Sem.run_bind, add_none]
              by_cases hlc : n = l
              · rw [if_pos hlc]
                exact ⟨_, rfl, .msl id _ _ b _ _ hp (by omega) (.inl (by omega))⟩
              · rw [if_neg hlc]
                exact ⟨_, rfl, .msl id _ _ b _ _ hp (by omega) (.inr rfl)⟩
          · simp at h
        · simp at h
      case row xs =>
        simp only at h
        split at h
        · rename_i i l k hi hl hk
          split at h
          · rename_i hle; injection h with h; subst h
            obtain ⟨h1, h2, h3⟩ := hle
            cases hx with
            | row _ b o vs hk' hv =>
              simp only [Instr.sureAddr, Sem.run_bind, Sem.run_pure, Result.andThen_ok]
              rw [sliceBounds_run hr ha false hl hk h1 h2]
              simp only [Result.andThen_ok, sizeOf_run hi, Sem.run_bind, add_none]
              have hc := cut_row hk' hv (l * i.size) (k * i.size)
              by_cases hlc : n = l
              · rw [if_pos hlc]
                have hkl : k = l := by omega
                refine ⟨_, rfl, .sl (k - l) _ _ b o (n - l) (fun i' => vs (l * i.size + i')) (by omega) (fun i' hi' => ?_) hc.2 trivial⟩
                subst hkl
                simp at hi'
              · rw [if_neg hlc]
                exact ⟨_, rfl, .sl (k - l) _ _ b (o + l * i.size) (n - l) (fun i' => vs (l * i.size + i')) (by omega) (fun i' hi' => hc.1 i' hi') hc.2 trivial⟩
          · simp at h
        · simp at h

end Go.Ab

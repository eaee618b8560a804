/- Walks: what is put, taken and read again: the law. -/
import Derived.Test.YtlcbdgklbjocnaaDoorLBack3
import Derived.Test.YtlcbdgklbjocnaaDoorLLaw15b
set_option linter.unusedSimpArgs false
set_option linter.unusedVariables false
set_option maxHeartbeats 4000000
set_option maxRecDepth 4000
namespace Go.Ab
open Go Go.RowKit
variable {E : Env} {N : Nat} {ts : List AV} {ds : List ADef} {H : List AO} {g : Ghost} {w : World}
/-- A row that may grow is known from now on; the room behind it stays one's own. -/
theorem Rep.vec_tail {n0 : Nat} {w0 : World} {gl : Nat → List AV} (hr : Rep n0 w0 gl g H w) {id sz n : Nat} {xs : List AV} (hH : H[id]? = some (.vec sz n xs)) : ∃ g', GLe g g' ∧ Rep n0 w0 gl g' (H.set id .dead ++ [.tail sz n]) w ∧ ∀ c, VRel g (.vsl id n) c → VRel g' (.sl n xs (.at H.length n)) c := by
  obtain ⟨ti, o1, o2, o3, o4, o5, o6⟩ := hr.objs _ _ hH
  have hid : id < H.length := (List.getElem?_eq_some_iff.1 hH).1
  have hlen : (H.set id .dead).length = H.length := by simp
  have base : ∀ {g' : Ghost}, GLe g g' → (∀ i, i ≠ id → own g' (H.set id .dead) i = own g H i) → (∀ b o v, g'.K b o = some v → w.cell? ⟨b, o, none⟩ = some v) → g'.phi = g.phi → g'.tok = g.tok → (∀ i b, i ≠ id → own g H i = some b → ∀ o, g.K b o = none → g'.K b o = none) → Rep n0 w0 gl g' (H.set id .dead) w := by
    intro g' le hown hk hp ht hK
    have hdead : own g' (H.set id .dead) id = none := by unfold own; rw [List.getElem?_set_self hid]
    refine ⟨hr.below, hr.n0le, hk, by rw [hp]; simp [hr.len], fun t e h => by rw [ht]; exact hr.beyond t e (by simpa using h), fun i o h => ?_, fun i j x hi hj => ?_, fun i => (hr.glob i).mono le⟩
    · by_cases e : id = i
      · subst e
        rw [List.getElem?_set_self hid] at h
        injection h with h; subst h; trivial
      · rw [List.getElem?_set_ne e] at h
        exact ORep.frame h (hr.objs i o h) le (fun _ _ => rfl) (fun b hb o ho => hK i b (fun h => e h.symm) hb o ho) (fun e h => by rw [ht]; exact h)
    · have hi' : i ≠ id := by rintro rfl; rw [hdead] at hi; simp at hi
      have hj' : j ≠ id := by rintro rfl; rw [hdead] at hj; simp at hj
      rw [hown i hi'] at hi
      rw [hown j hj'] at hj
      exact hr.apart i j x hi hj
  have hownset : ∀ {g' : Ghost}, g'.phi = g.phi → g'.tok = g.tok → ∀ i, i ≠ id → own g' (H.set id .dead) i = own g H i := by
    intro g' h1 h2 i hi
    unfold own
    rw [List.getElem?_set_ne (fun h => hi h.symm), h1, h2]
  have triv : ti.spare = 0 → ∃ g', GLe g g' ∧ Rep n0 w0 gl g' (H.set id .dead ++ [.tail sz n]) w ∧ ∀ c, VRel g (.vsl id n) c → VRel g' (.sl n xs (.at H.length n)) c := by
    intro hs
    have hn : n = 0 := by omega
    subst hn
    have : xs = [] := by simp at o4; exact o4
    subst this
    have r0 := base (GLe.refl g) (hownset rfl rfl) hr.know rfl rfl (fun _ _ _ _ _ h => h)
    obtain ⟨r1, r2⟩ := Rep.new_tok r0 sz 0 ⟨0, 0, 0⟩ (.inl rfl) (fun h => absurd rfl h)
    rw [hlen] at r1 r2
    have htk : ((g.push 0).setTok H.length 0 ⟨0, 0, 0⟩).tok H.length 0 = some ⟨0, 0, 0⟩ := setTok_same _ _ _ _
    refine ⟨_, r2, r1, fun c hc => ?_⟩
    cases hc with
    | vslN _ ti2 ht hs => exact .nsl _ ⟨_, htk, rfl⟩
    | vslZ _ ti2 b o ht hs => exact .sl 0 [] _ b o 0 (fun _ => undef) (Nat.le_refl _) (fun i hi => by simp at hi) (fun i => .top _) ⟨_, htk, rfl, .inl rfl⟩
    | vsl _ _ ti2 ht h0 hn hs => rw [o1] at ht; injection ht with ht; subst ht; omega
  rcases o6 with o6 | ⟨cs, T, fz, p1, p2, p3, p4, p5, p6⟩
  · exact triv o6
  · by_cases hs : ti.spare = 0
    · exact triv hs
    have hown : own g H id = some ti.b := by unfold own; rw [hH]; simp [o1, hs]
    have le := g.learn_le ti.b (fun o => if o < xs.length then cs[o]? else none)
    have hxl : xs.length ≤ cs.size := by rw [p3, o4]; exact Nat.mul_le_mul_right _ o5
    have r0 := base le (hownset rfl rfl) (fun x o v h => by
      have h' : (if x = ti.b then (match g.K x o with | some v => some v | none => if o < xs.length then cs[o]? else none) else g.K x o) = some v := h
      split at h'
      · rename_i e
        subst e
        rw [p6 o] at h'
        simp only at h'
        split at h'
        · rw [cell_of_heap p2]; exact h'
        · simp at h'
      · exact hr.know _ _ _ h') rfl rfl (fun i b hi hb o ho => by
      show (if b = ti.b then _ else _) = none
      rw [if_neg (by rintro rfl; exact hi (hr.apart _ _ _ hb hown))]; exact ho)
    have hmul : n * sz + (ti.spare - n) * sz = ti.spare * sz := by rw [← Nat.add_mul]; congr 1; omega
    obtain ⟨r1, r2⟩ := Rep.new_tok r0 sz n ⟨ti.b, n * sz, ti.spare - n⟩ (.inr ⟨cs, T, fz, p1, p2, by simp only; omega, fun k _ hk => p5 k (by simp only at hk; omega), fun o ho => by
      show (if ti.b = ti.b then (match g.K ti.b o with | some v => some v | none => if o < xs.length then cs[o]? else none) else _) = none
      rw [if_pos rfl, p6 o]
      simp only at ho ⊢
      rw [if_neg (by omega)]⟩) (fun _ i hi => by
      by_cases e : i = id
      · subst e
        unfold own at hi
        rw [List.getElem?_set_self hid] at hi; simp at hi
      · rw [hownset (g' := g.learn ti.b (fun o => if o < xs.length then cs[o]? else none)) rfl rfl i e] at hi
        exact e (hr.apart _ _ _ hi hown))
    rw [hlen] at r1 r2
    refine ⟨_, le.trans r2, r1, fun c hc => ?_⟩
    have htk := setTok_same ((g.learn ti.b (fun o => if o < xs.length then cs[o]? else none)).push 0) H.length n ⟨ti.b, n * sz, ti.spare - n⟩
    cases hc with
    | vslN _ ti2 ht hs2 => rw [o1] at ht; injection ht with ht; subst ht; exact absurd hs2 hs
    | vslZ _ ti2 b o ht hs2 => rw [o1] at ht; injection ht with ht; subst ht; exact absurd hs2 hs
    | vsl _ _ ti2 ht h0 hn hs2 =>
      rw [o1] at ht; injection ht with ht; subst ht
      refine .sl n xs _ ti.b 0 _ (fun i => cs.getD i undef) hn (fun i hi => ?_) (fun i => (p4 i).mono (le.trans r2)) ⟨_, htk, rfl, .inr ⟨rfl, by simp only; rw [Nat.zero_add, o4]⟩⟩
      rw [Nat.zero_add]
      refine r2.1 _ _ _ ?_
      show (if ti.b = ti.b then (match g.K ti.b i with | some v => some v | none => if i < xs.length then cs[i]? else none) else _) = _
      rw [if_pos rfl, p6 i]
      simp only
      rw [if_pos hi, Array.getElem?_eq_getElem (by omega)]
      simp [Array.getD_eq_getD_getElem?, show i < cs.size by omega]
theorem Shift.vecTail (t : Nat) {id sz n : Nat} {xs : List AV} (h : ts.getD t .top = .vsl id n) (hH : H[id]? = some (.vec sz n xs)) : Shift E N ts ds H (ts.set t (.sl n xs (.at H.length n))) (H.set id .dead ++ [.tail sz n]) := fun g0 g w a' hd hl hr ha => by
  obtain ⟨g', r1, r2, r3⟩ := Rep.vec_tail hr hH
  refine ⟨g', hl.trans r1, r2, ?_, ha.2.mono r1⟩
  have h1 := (ha.1.2 t)
  rw [h] at h1
  have h2 := (ha.1.mono r1).set t (c := a'.tmps.getD t undef) (r3 _ h1)
  have e : a'.tmps.setIfInBounds t (a'.tmps.getD t undef) = a'.tmps := by
    apply Array.ext_getElem?
    intro i
    rw [Array.getElem?_setIfInBounds]
    split
    · rename_i e; subst e
      split
      · rename_i hlt; rw [Array.getElem?_eq_getElem hlt]; simp [Array.getD, hlt]
      · rename_i hlt; rw [Array.getElem?_eq_none (by omega)]
    · rfl
  rwa [e] at h2
end Go.Ab
namespace Go.Ab.Tryd
open Go Go.Ab Go.Proofs
attribute [local irreducible] W Wl Wop TrA WSeq WLoopS FPost DPost RPost WRound DK onEnd
variable {n0 : Nat} {w0 : World} {gl : Nat → List AV} {H : List AO}
attribute [local simp] belowL_bytesAV belowL_strs

theorem put2_t [ht : Tab10 n0 w0] (l : Parts) (tok : Tok) : Ctr (env n0 w0 gl) 19 [.sl l.length (partsAV l) tok] H (l.length ≤ 9223372036854775807 ∧ (putL (l.map (·.1))).length ≤ 140737488350000) (.sl (putL (l.map (·.1))).length (bytesAV (putL (l.map (·.1)))) (.at (H.length + 1) (putL (l.map (·.1))).length)) (H ++ [.dead, .tail 1 (putL (l.map (·.1))).length]) := .of fun ⟨hl, hb⟩ => by
  have hpl := partsAV_len l
  refine enter (md := fun _ => 0) Tryd.func19 (fun hfit hgl => ?_)
  refine gos ?_
  refine wseq_normal ?_
  refine gos ?_
  refine wseq_normal ?_
  refine gos ?_
  refine wseq_shift (Shift.vec 1 3 rfl) ?_
  simp only [List.set_cons_succ, List.set_cons_zero]
  repeat' (first | refine go ?_ | (refine br (fun hc => ?_) (fun hc => ?_) <;> try (exfalso; omega)) | fail)
  refine loop (fun i : Nat => (.sl l.length (partsAV l) tok :: .top :: .sl 0 [] .full :: .vsl H.length (putL ((l.take i).map (·.1))).length :: .top :: .top :: .sl l.length (partsAV l) tok :: .int .i64 l.length :: .int .i64 (i : Int) :: .top :: .top :: .top :: .top :: .top :: .top :: .top :: .top :: .top :: .top :: .top :: .top :: .top :: .top :: .top :: .top :: [])) (fun i => H ++ [.vec 1 (putL ((l.take i).map (·.1))).length (bytesAV (putL ((l.take i).map (·.1))))]) (fun i => i ≤ l.length) (fun i => l.length - i) 0 (Nat.zero_le _) ?_
  intro i hi
  by_cases hlt : i < l.length
  · have hat := partsAV_at hlt
    have hst := putL_take hlt
    have hmo := putL_mono l (i + 1)
    generalize hf : (l.getD i ([], .ro)).1 = f at *
    generalize hft : (l.getD i ([], .ro)).2 = ft at *
    have hsl : (putL ((l.take (i + 1)).map (·.1))).length = (putL ((l.take i).map (·.1))).length + (Lib.nDigits f.length + (1 + (f.length + 1))) := by rw [hst, List.length_append, putF_len]; omega
    have hsb : bytesAV (putL ((l.take (i + 1)).map (·.1))) = bytesAV (putL ((l.take i).map (·.1))) ++ (bytesAV (Lib.decDigits f.length) ++ .int .u8 58 :: (bytesAV f ++ [.int .u8 44])) := by rw [hst]; simp [putF, bytesAV, byteAV]
    have hh := And.intro hpl hat
    repeat' (first | refine go ?_ | (refine br (fun hc => ?_) (fun hc => ?_) <;> try (exfalso; omega)) | fail)
    rw [← hsl, ← hsb]
    exact again (i + 1) (by omega)
  · obtain rfl : i = l.length := by omega
    rw [List.take_length]
    refine gos ?_
    refine wseq_normal ?_
    refine gos ?_
    refine wseq_shift (Shift.vecTail 3 (sz := 1) rfl (by rw [List.getElem?_append_right (Nat.le_refl _), Nat.sub_self]; rfl)) ?_
    simp only [List.set_cons_succ, List.set_cons_zero, setE0, List.append_assoc, List.cons_append, List.nil_append, List.length_append, List.length_cons, List.length_nil, Nat.zero_add]
    repeat' (first | refine go ?_ | (refine br (fun hc => ?_) (fun hc => ?_) <;> try (exfalso; omega)) | fail)
    exact .now ⟨rfl, rfl⟩

theorem acall_ro {E : Env} {f : FuncId} {n : Nat} {xs : List AV} {tok : Tok} {rest : List AV} {R : AE → List AO → Prop} (h : ACall E f (.sl n xs .ro :: rest) H R) : ACall E f (.sl n xs tok :: rest) H R := by
  intro g w cs hr hv
  refine h g w cs hr ⟨hv.1, fun i => ?_⟩
  match i with
  | 0 =>
    have := hv.2 0
    simp only [List.getD_cons_zero] at this ⊢
    generalize cs.getD 0 undef = c at this
    cases this with
    | nsl t h => exact .nsl _ trivial
    | sl n xs tok b o cap vs hn hk hx ht => exact .sl n xs _ b o cap vs hn hk hx trivial
  | i + 1 => exact hv.2 (i + 1)

theorem same11_e (fro : List UInt8) (to : List (List UInt8)) (at_ : Int) (htl : to.length ≤ 9223372036854775807) : AEnter (env n0 w0 gl) 72 [.agg [.str fro, .sl to.length (to.map .str) .ro, .int .i64 at_], .agg [.str fro, .sl to.length (to.map .str) .ro, .int .i64 at_]] H (fun y H' => y = .ret (.bool true) ∧ H' = H) := by
  refine enter (md := fun _ => 0) Tryd.func72 (fun hfit hgl => ?_)
  repeat' (first | refine go ?_ | (refine br (fun hc => ?_) (fun hc => ?_) <;> try (exfalso; omega)) | fail)
  refine loop0 (fun i : Nat => (.top :: .top :: .ref H.length 0 :: .ref (H.length + 1) 0 :: .bool false :: .top :: .top :: .top :: .top :: .top :: .top :: .top :: .top :: .top :: .top :: .top :: .top :: .top :: .top :: .top :: .top :: .top :: .top :: .top :: .top :: .top :: .top :: .top :: .top :: .int .i64 to.length :: .int .i64 (i : Int) :: .top :: .top :: .top :: .top :: .top :: .top :: .top :: .top :: .top :: .top :: .top :: .top :: .top :: .top :: [])) (fun i => i ≤ to.length) (fun i => to.length - i) 0 (Nat.zero_le _) ?_
  intro i hi
  by_cases hlt : i < to.length
  · repeat' (first | refine go ?_ | (refine br (fun hc => ?_) (fun hc => ?_) <;> try (exfalso; omega)) | fail)
    exact again (i + 1) (by omega)
  · repeat' (first | refine go ?_ | (refine br (fun hc => ?_) (fun hc => ?_) <;> try (exfalso; omega)) | fail)
    exact .junkd ⟨rfl, rfl⟩
theorem same15_e (m : Msg) (hm : m.Small) : AEnter (env n0 w0 gl) 38 [.agg m.av, .agg m.av] H (fun y H' => y = .ret (.bool true) ∧ H' = H) := by
  obtain ⟨id, cls, fro, to, at_, body⟩ := m
  have h1 : ∀ H, Ctr (env n0 w0 gl) 72 [.agg [.str fro, .sl to.length (to.map .str) .ro, .int .i64 at_], .agg [.str fro, .sl to.length (to.map .str) .ro, .int .i64 at_]] H True (.bool true) H := fun H => .of fun _ => same11_e fro to at_ hm.2.2.2.1
  simp only [Msg.av]
  refine enter (md := fun _ => 0) Tryd.func38 (fun hfit hgl => ?_)
  repeat' (first | refine go ?_ | (refine br (fun hc => ?_) (fun hc => ?_) <;> try (exfalso; omega)) | fail)
  exact .junkd ⟨rfl, rfl⟩

theorem entryBack_e [ht : Tab10 n0 w0] (m : Msg) (a more : List UInt8) (hm : m.Small) (ha : a.length ≤ 9223372036854775807) (hmo : more.length ≤ 9223372036854775807) : AEnter (env n0 w0 gl) 12 [.agg m.av, .sl a.length (bytesAV a) .ro, .sl more.length (bytesAV more) .ro] H (fun y H' => y = .ret (.bool true) ∧ H' = H) := by
  have hf : ∀ H, Ctr (env n0 w0 gl) 14 [.agg m.av] H True (.bool (tf m.Few)) H := fun H => .of fun _ => few15_e m hm
  generalize m.Few = p at hf
  by_cases hab : a.length ≤ 2000 ∧ more.length ≤ 500
  · have h7 : Lib.nDigits a.length ≤ 7 := nDigits_le (by omega) (by omega)
    have hpl := putF_len a
    have hput : ∀ H tok, Ctr (env n0 w0 gl) 19 [.sl 1 [.sl a.length (bytesAV a) .ro] tok] H True (.sl (putF a).length (bytesAV (putF a)) (.at (H.length + 1) (putF a).length)) (H ++ [.dead, .tail 1 (putF a).length]) := fun H tok => ⟨fun _ => by
      have hp1 : putL (([(a, .ro)] : Parts).map (·.1)) = putF a := by simp [putL]
      have := (put2_t (n0 := n0) (w0 := w0) (gl := gl) (H := H) [(a, .ro)] tok).call ⟨by show 1 ≤ 9223372036854775807; decide, by rw [hp1]; omega⟩
      rw [hp1] at this
      exact this⟩
    have htk : ∀ H tok, Ctr (env n0 w0 gl) 21 [.sl ((putF a).length + more.length) (bytesAV (putF a) ++ bytesAV more) tok] H True (.tup [.sl a.length (bytesAV a) .ro, .sl more.length (bytesAV more) .ro, .bool true]) H := fun H tok => ⟨fun _ => by
      have := (take_t (n0 := n0) (w0 := w0) (gl := gl) (H := H) (putF a ++ more)).call (by rw [List.length_append]; omega)
      rw [takeV_put a more (by omega), List.length_append, show bytesAV (putF a ++ more) = bytesAV (putF a) ++ bytesAV more by simp [bytesAV]] at this
      exact acall_ro this⟩
    generalize hpa : putF a = pa at *
    by_cases hE : m.EncOk
    · have hen : ∀ H, Ctr (env n0 w0 gl) 17 [.agg m.av] H True (.tup [.sl m.enc.length (bytesAV m.enc) .ro, .int .i64 0]) H := fun H => .of fun _ => encode_ok m hm hE
      have hde : ∀ H, Ctr (env n0 w0 gl) 36 [.sl m.enc.length (bytesAV m.enc) .ro] H True (.tup [.agg m.av, .int .i64 0]) H := fun H => .of fun _ => decode_enc m hm hE
      have hsa : ∀ H, Ctr (env n0 w0 gl) 38 [.agg m.av, .agg m.av] H True (.bool true) H := fun H => .of fun _ => same15_e m hm
      generalize m.enc = en at *
      obtain ⟨id, cls, fro, to, at_, body⟩ := m
      simp only [Msg.av] at hf hen hde hsa ⊢
      have hh := And.intro (bytesAV_one more) (show pa.length + more.length ≤ 140737488355328 by omega)
      cases hp : tf p
      all_goals
        rw [hp] at hf
        refine enter (md := fun _ => 0) Tryd.func12 (fun hfit hgl => ?_)
        repeat' (first | refine go ?_ | (refine br (fun hc => ?_) (fun hc => ?_) <;> try (exfalso; omega)) | fail)
        exact .junkd ⟨rfl, rfl⟩
    · have hen : ∀ H, Ctr (env n0 w0 gl) 17 [.agg m.av] H True (.tup [.sl 0 [] .full, .int .i64 150]) H := fun H => .of fun _ => encode_bad m hm hE
      obtain ⟨id, cls, fro, to, at_, body⟩ := m
      simp only [Msg.av] at hf hen ⊢
      have hh := And.intro (bytesAV_one more) (show pa.length + more.length ≤ 140737488355328 by omega)
      cases hp : tf p
      all_goals
        rw [hp] at hf
        refine enter (md := fun _ => 0) Tryd.func12 (fun hfit hgl => ?_)
        repeat' (first | refine go ?_ | (refine br (fun hc => ?_) (fun hc => ?_) <;> try (exfalso; omega)) | fail)
        exact .junkd ⟨rfl, rfl⟩
  · obtain ⟨id, cls, fro, to, at_, body⟩ := m
    simp only [Msg.av] at hf ⊢
    cases hp : tf p
    all_goals
      rw [hp] at hf
      refine enter (md := fun _ => 0) Tryd.func12 (fun hfit hgl => ?_)
      repeat' (first | refine go ?_ | (refine br (fun hc => ?_) (fun hc => ?_) <;> try (exfalso; omega)) | fail)
      all_goals exact .junkd ⟨rfl, rfl⟩

end Go.Ab.Tryd

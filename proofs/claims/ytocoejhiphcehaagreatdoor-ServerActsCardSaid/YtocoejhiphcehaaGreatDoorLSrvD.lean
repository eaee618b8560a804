/- A session's memory, facts. -/
import Derived.Test.YtocoejhiphcehaaGreatDoorLSrvC
import Derived.Test.YtocoejhiphcehaaGreatDoorLMark
section
set_option linter.unusedSimpArgs false
set_option linter.unusedVariables false
set_option maxHeartbeats 16000000
set_option maxRecDepth 10000
namespace Go.Ab.Tryz
open Go Go.Ab Go.Proofs
attribute [local irreducible] W Wl Wop TrA WSeq WLoopS FPost DPost RPost WRound DK onEnd
attribute [local simp] belowL_bytesAV belowL_strsM
variable {n0 : Nat} {w0 : World} {gl : Nat → List AV} {H : List AO}

instance slines_t (a : Nat) : Ctr (env n0 w0 gl) 36 [.ref a 0] H (a < H.length) (.fn 47 [] [.ref H.length 0]) (H ++ [.cells [.ref a 0]]) := .of fun ha => by
  refine enter (md := fun _ => 0) Tryz.func36 (fun hfit hgl => ?_)
  repeat' (first | refine go ?_ | (refine br (fun hc => ?_) (fun hc => ?_) <;> try (exfalso; omega)) | fail)
  exact .now ⟨rfl, rfl⟩

theorem sput_g0 (a jk jt : Nat) (s : Ses) (ek et : Nat) (l : List AO) : (sput H a jk jt s ek et ++ l)[H.length]? = l[0]? := by rw [← sput_len H a jk jt s ek et]; simp [getE, getE0]
theorem sput_gi (a jk jt : Nat) (s : Ses) (ek et : Nat) (l : List AO) (i : Nat) : (sput H a jk jt s ek et ++ l)[H.length + i]? = l[i]? := by rw [← sput_len H a jk jt s ek et]; simp [getE, getE0]
attribute [local simp high] sput_g0 sput_gi
theorem onF {a jk jt : Nat} {s : Ses} {ek et : Nat} (h : SesAt H a jk jt s ek et) : (∀ s ek et k, (sput H a jk jt s ek et ++ k)[a]? = some (.cells [.str s.host, .int .i64 s.rc, .int .i64 s.sz, .sl s.kept.length (bytesAV s.kept) (.at jk ek), .int .i64 s.state, .str s.fro, .sl s.to.length (s.to.map .str) (.at jt et), .sl s.body.length (bytesAV s.body) .ro, .bool s.told, .bool s.waits, .bool s.shut])) ∧ (∀ s ek et l i, (sput H a jk jt s ek et ++ l)[H.length + i]? = l[i]?) ∧ (∀ s ek et l, (sput H a jk jt s ek et ++ l)[H.length]? = l[0]?) ∧ (∀ s ek et l i v, (sput H a jk jt s ek et ++ l).set (H.length + i) v = sput H a jk jt s ek et ++ l.set i v) ∧ (∀ s ek et l v, (sput H a jk jt s ek et ++ l).set H.length v = sput H a jk jt s ek et ++ l.set 0 v) ∧ (∀ s ek et, (sput H a jk jt s ek et).length = H.length) := by
  have hl := fun s ek et => sput_len H a jk jt s ek et
  refine ⟨fun s ek et k => ((sput_at h s ek et).app k).cells, fun s ek et l i => ?_, fun s ek et l => ?_, fun s ek et l i v => ?_, fun s ek et l v => ?_, hl⟩ <;> rw [← hl s ek et] <;> simp [getE, getE0, setE, setE0]

theorem sput_s0 {a : Nat} (v : AO) (jk jt : Nat) (s : Ses) (ek et : Nat) (l : List AO) : ((sput H a jk jt s ek et).set a v ++ l)[H.length]? = l[0]? := by
  have : ((sput H a jk jt s ek et).set a v).length = H.length := by rw [List.length_set, sput_len]
  rw [List.getElem?_append_right (by omega), this, Nat.sub_self]
theorem sput_si {a : Nat} (v : AO) (jk jt : Nat) (s : Ses) (ek et : Nat) (l : List AO) (i : Nat) : ((sput H a jk jt s ek et).set a v ++ l)[H.length + i]? = l[i]? := by
  have : ((sput H a jk jt s ek et).set a v).length = H.length := by rw [List.length_set, sput_len]
  rw [List.getElem?_append_right (by omega), this, Nat.add_sub_cancel_left]
attribute [local simp high] sput_s0 sput_si
theorem onG {a : Nat} (ha : a < H.length) (jk jt : Nat) : (∀ s ek et v l, (sput H a jk jt s ek et ++ l).set a v = (sput H a jk jt s ek et).set a v ++ l) ∧ (∀ s ek et v l, ((sput H a jk jt s ek et).set a v ++ l)[a]? = some v) ∧ (∀ s ek et v w l, ((sput H a jk jt s ek et).set a v ++ l).set a w = (sput H a jk jt s ek et).set a w ++ l) ∧ (∀ s ek et v l i, ((sput H a jk jt s ek et).set a v ++ l)[H.length + i]? = l[i]?) ∧ (∀ s ek et v l, ((sput H a jk jt s ek et).set a v ++ l)[H.length]? = l[0]?) := by
  refine ⟨fun s ek et v l => setL (by rw [sput_len]; exact ha), fun s ek et v l => ?_, fun s ek et v w l => ?_, fun s ek et v l i => sput_si v jk jt s ek et l i, fun s ek et v l => sput_s0 v jk jt s ek et l⟩
  · rw [getL (by rw [List.length_set, sput_len]; exact ha), List.getElem?_set_self (by rw [sput_len]; exact ha)]
  · rw [setL (by rw [List.length_set, sput_len]; exact ha), List.set_set]
/-- What is kept moves into the place that stands ready. -/
theorem move_e {a jk jt : Nat} {s : Ses} {ek et : Nat} (h : SesAt H a jk jt s ek et) (s2 : Ses) (ek2 et2 : Nat) (r : List UInt8) (L : List AO) (i : Nat) (hL : L[i]? = some (.tail 1 r.length)) : HS (env n0 w0 gl) ((sput H a jk jt s2 ek2 et2).set a (.cells [.str s2.host, .int .i64 s2.rc, .int .i64 s2.sz, .sl r.length (bytesAV r) (.at (H.length + i) r.length), .int .i64 s2.state, .str s2.fro, .sl s2.to.length (s2.to.map .str) (.at jt et2), .sl s2.body.length (bytesAV s2.body) .ro, .bool s2.told, .bool s2.waits, .bool s2.shut]) ++ L) (sput H a jk jt { s2 with kept := r } (ek2 + 1) et2 ++ L.set i .dead) := by
  obtain ⟨h1, h2, h3, h4, h5⟩ := h.ne
  have hkt := h.kt
  have hB := sput_at h s2 ek2 et2
  have hlB := sput_len H a jk jt s2 ek2 et2
  refine HS.move a 3 (H.length + i) jk (e := ek2) (by rw [getL (by rw [List.length_set, hlB]; exact h3), List.getElem?_set_self (by rw [hlB]; exact h3)]) rfl (by simp) (sz := 1) ?_ ?_ (by omega) ?_
  · rw [sput_si]; exact hL
  · rw [getL (by rw [List.length_set, hlB]; exact h4), List.getElem?_set_ne h1]; exact hB.hk
  · rw [List.set_append_right _ _ (by rw [List.length_set, hlB]; omega), List.length_set, hlB, Nat.add_sub_cancel_left, setL (by rw [List.length_set, hlB]; exact h4), setL (by rw [List.length_set, List.length_set, hlB]; exact h3)]
    congr 1
    rw [List.set_comm _ _ h1, List.set_set, ← sput_put h s2 { s2 with kept := r } ek2 et2 (ek2 + 1) et2]
    have e := set_same (A := (sput H a jk jt s2 ek2 et2).set jk (.tail 1 (ek2 + 1))) (i := jt) (o := .tail 1 et2) (by rw [List.getElem?_set_ne hkt]; exact hB.ht)
    rw [show sput (sput H a jk jt s2 ek2 et2) a jk jt { s2 with kept := r } (ek2 + 1) et2 = (((sput H a jk jt s2 ek2 et2).set jk (.tail 1 (ek2 + 1))).set jt (.tail 1 et2)).set a (.cells (sesAV { s2 with kept := r } jk (ek2 + 1) jt et2)) from rfl, e]
    rfl

theorem linesL_len {s : Ses} {x : List UInt8} {post : List (List UInt8)} (h : linesL s = x :: post) : x.length ≤ s.kept.length := by
  by_cases h0 : s.shut = true ∨ s.waits = true ∨ s.state = 4
  · rw [linesL_stop h0] at h; simp at h
  cases hc : crlfAt s.kept with
  | none => rw [linesL_none hc] at h; simp at h
  | some p =>
    obtain ⟨x', y⟩ := p
    have hl := crlfAt_len hc
    rw [linesL_some h0 hc] at h
    simp only [List.cons.injEq] at h
    rw [← h.1]; omega

end Go.Ab.Tryz

end

section
set_option linter.unusedSimpArgs false
set_option linter.unusedVariables false
set_option maxHeartbeats 16000000
set_option maxRecDepth 10000
namespace Go.Ab.Tryz
open Go Go.Ab Go.Proofs
attribute [local irreducible] W Wl Wop TrA WSeq WLoopS WLoopM FPost DPost RPost WRound DK onEnd
attribute [local simp] belowL_bytesAV belowL_strsM
variable {n0 : Nat} {w0 : World} {gl : Nat → List AV} {H : List AO}

/-- Memory as a session goes on. -/
def bon (H K : List AO) (a jk jt : Nat) (s : Ses) (ek et n : Nat) (ys : List UInt8) : List AO := sput H a jk jt s ek et ++ (.cells [.ref a 0] :: .cells [.vsl (H.length + 2) n] :: .vec 1 ys.length (bytesAV ys) :: K)
def bonL (H K : List AO) : Nat := H.length + (K.length + 3)
theorem bon_len (K : List AO) (a jk jt : Nat) (s : Ses) (ek et n : Nat) (ys : List UInt8) : (bon H K a jk jt s ek et n ys).length = bonL H K := by simp [bon, bonL, sput_len]
theorem bon_app (K : List AO) (a jk jt : Nat) (s : Ses) (ek et n : Nat) (ys : List UInt8) (l : List AO) : bon H K a jk jt s ek et n ys ++ l = bon H (K ++ l) a jk jt s ek et n ys := by simp [bon]
theorem bon_sput {a jk jt : Nat} {s0 : Ses} {ek0 et0 : Nat} (h : SesAt H a jk jt s0 ek0 et0) (K : List AO) (s : Ses) (ek et n : Nat) (ys : List UInt8) (l : List AO) (s' : Ses) (ek' et' : Nat) : sput (bon H K a jk jt s ek et n ys ++ l) a jk jt s' ek' et' = bon H K a jk jt s' ek' et' n ys ++ l := by
  unfold bon
  rw [List.append_assoc, sput_app (sput_at h s ek et), sput_put h, List.append_assoc]
theorem bon_ses {a jk jt : Nat} {s0 : Ses} {ek0 et0 : Nat} (h : SesAt H a jk jt s0 ek0 et0) (K : List AO) (s : Ses) (ek et n : Nat) (ys : List UInt8) (l : List AO) : SesAt (bon H K a jk jt s ek et n ys ++ l) a jk jt s ek et := by
  unfold bon
  rw [List.append_assoc]
  exact (sput_at h s ek et).app _
theorem bon_set {a jk jt : Nat} {s0 : Ses} {ek0 et0 : Nat} (h : SesAt H a jk jt s0 ek0 et0) (K : List AO) (s : Ses) (ek et n : Nat) (ys : List UInt8) (l : List AO) (s' : Ses) : (bon H K a jk jt s ek et n ys ++ l).set a (.cells (sesAV s' jk ek jt et)) = bon H K a jk jt s' ek et n ys ++ l := by
  rw [sput_cells (bon_ses h K s ek et n ys l), bon_sput h]
theorem bon_g0 (K : List AO) (a jk jt : Nat) (s : Ses) (ek et n : Nat) (ys : List UInt8) (l : List AO) : (bon H K a jk jt s ek et n ys ++ l)[H.length]? = some (.cells [.ref a 0]) := by
  unfold bon; rw [List.append_assoc, sput_g0]; rfl
theorem bon_g1 (K : List AO) (a jk jt : Nat) (s : Ses) (ek et n : Nat) (ys : List UInt8) (l : List AO) : (bon H K a jk jt s ek et n ys ++ l)[H.length + 1]? = some (.cells [.vsl (H.length + 2) n]) := by
  unfold bon; rw [List.append_assoc, sput_gi]; rfl
theorem bon_g2 (K : List AO) (a jk jt : Nat) (s : Ses) (ek et n : Nat) (ys : List UInt8) (l : List AO) : (bon H K a jk jt s ek et n ys ++ l)[H.length + 2]? = some (.vec 1 ys.length (bytesAV ys)) := by
  unfold bon; rw [List.append_assoc, sput_gi]; rfl
theorem bon_gM (K : List AO) (a jk jt : Nat) (s : Ses) (ek et n : Nat) (ys : List UInt8) (l : List AO) (i : Nat) : (bon H K a jk jt s ek et n ys ++ l)[bonL H K + i]? = l[i]? := by
  rw [List.getElem?_append_right (by rw [bon_len]; omega), bon_len, Nat.add_sub_cancel_left]
theorem bon_gM0 (K : List AO) (a jk jt : Nat) (s : Ses) (ek et n : Nat) (ys : List UInt8) (l : List AO) : (bon H K a jk jt s ek et n ys ++ l)[bonL H K]? = l[0]? := by
  rw [List.getElem?_append_right (by rw [bon_len]; omega), bon_len, Nat.sub_self]
attribute [local simp high] bon_g0 bon_g1 bon_g2 bon_gM bon_gM0
theorem bonF {a jk jt : Nat} {s0 : Ses} {ek0 et0 : Nat} (h : SesAt H a jk jt s0 ek0 et0) (K : List AO) : (∀ s ek et n ys l, (bon H K a jk jt s ek et n ys ++ l)[a]? = some (.cells [.str s.host, .int .i64 s.rc, .int .i64 s.sz, .sl s.kept.length (bytesAV s.kept) (.at jk ek), .int .i64 s.state, .str s.fro, .sl s.to.length (s.to.map .str) (.at jt et), .sl s.body.length (bytesAV s.body) .ro, .bool s.told, .bool s.waits, .bool s.shut])) ∧ (∀ s ek et n ys l, (bon H K a jk jt s ek et n ys ++ l)[H.length]? = some (.cells [.ref a 0])) ∧ (∀ s ek et n ys l, (bon H K a jk jt s ek et n ys ++ l)[H.length + 1]? = some (.cells [.vsl (H.length + 2) n])) ∧ (∀ s ek et n ys l, (bon H K a jk jt s ek et n ys ++ l)[H.length + 2]? = some (.vec 1 ys.length (bytesAV ys))) ∧ (∀ s ek et n ys l i, (bon H K a jk jt s ek et n ys ++ l)[bonL H K + i]? = l[i]?) ∧ (∀ s ek et n ys l, (bon H K a jk jt s ek et n ys ++ l)[bonL H K]? = l[0]?) ∧ (∀ s ek et n ys l O, (bon H K a jk jt s ek et n ys ++ l).set (H.length + 2) (.vec 1 (ys.length + O.length) (bytesAV ys ++ bytesAV O)) = bon H K a jk jt s ek et n (ys ++ O) ++ l) ∧ (∀ s ek et n ys l m, (bon H K a jk jt s ek et n ys ++ l).set (H.length + 1) (.cells [.vsl (H.length + 2) m]) = bon H K a jk jt s ek et m ys ++ l) ∧ (∀ s ek et n ys l i v, (bon H K a jk jt s ek et n ys ++ l).set (bonL H K + i) v = bon H K a jk jt s ek et n ys ++ l.set i v) ∧ (∀ s ek et n ys l v, (bon H K a jk jt s ek et n ys ++ l).set (bonL H K) v = bon H K a jk jt s ek et n ys ++ l.set 0 v) ∧ (∀ s ek et n ys, (bon H K a jk jt s ek et n ys).length = bonL H K) ∧ (∀ s ek et n ys l, a < (bon H K a jk jt s ek et n ys ++ l).length) ∧ (∀ s ek et n ys, a < (bon H K a jk jt s ek et n ys).length) ∧ (∀ s ek et n ys, (bon H K a jk jt s ek et n ys)[H.length]? = some (.cells [.ref a 0])) := by
  have hF := onF h
  have h3 := h.ne.2.2.1
  refine ⟨fun s ek et n ys l => (bon_ses h K s ek et n ys l).cells, fun s ek et n ys l => bon_g0 .., fun s ek et n ys l => bon_g1 .., fun s ek et n ys l => bon_g2 .., fun s ek et n ys l i => bon_gM .., fun s ek et n ys l => bon_gM0 .., fun s ek et n ys l O => ?_, fun s ek et n ys l m => ?_, fun s ek et n ys l i v => ?_, fun s ek et n ys l v => ?_, fun s ek et n ys => bon_len .., fun s ek et n ys l => ?_, fun s ek et n ys => ?_, fun s ek et n ys => ?_⟩
  · unfold bon
    rw [List.append_assoc, hF.2.2.2.1, List.append_assoc]
    simp [bytesAV]
  · unfold bon
    rw [List.append_assoc, hF.2.2.2.1, List.append_assoc]
    simp
  · rw [List.set_append_right _ _ (by rw [bon_len]; omega), bon_len, Nat.add_sub_cancel_left]
  · rw [List.set_append_right _ _ (by rw [bon_len]; omega), bon_len, Nat.sub_self]
  · rw [List.length_append, bon_len]; unfold bonL; omega
  · rw [bon_len]; unfold bonL; omega
  · have := bon_g0 (H := H) K a jk jt s ek et n ys []
    rwa [List.append_nil] at this
/-- The marks of ranges that are over. -/
structure Marks (H K : List AO) (ms : List Nat) : Prop where
  nodup : ms.Nodup
  at_ : ∀ m ∈ ms, H.length + 3 ≤ m ∧ m < bonL H K ∧ K[m - (H.length + 3)]? = some .defr
  fit : ∀ x ∈ K, x.within H.length = true
theorem Marks.more {K : List AO} {ms : List Nat} (h : Marks H K ms) {a : Nat} (ha : a < H.length) : Marks H (K ++ [.cells [.ref a 0], .defr]) ((bonL H K + 1) :: ms) := by
  refine ⟨List.nodup_cons.2 ⟨fun hm => ?_, h.nodup⟩, fun m hm => ?_, fun x hx => ?_⟩
  · have := (h.at_ _ hm).2.1; omega
  · rcases List.mem_cons.1 hm with rfl | hm
    · refine ⟨by unfold bonL; omega, by simp [bonL]; omega, ?_⟩
      rw [List.getElem?_append_right (by unfold bonL; omega)]
      rw [show bonL H K + 1 - (H.length + 3) - K.length = 1 by unfold bonL; omega]
      rfl
    · have := h.at_ m hm
      have hb : m - (H.length + 3) < K.length := (List.getElem?_eq_some_iff.1 this.2.2).1
      refine ⟨this.1, by simp [bonL]; omega, by rw [List.getElem?_append_left hb]; exact this.2.2⟩
  · rcases List.mem_append.1 hx with hx | hx
    · exact h.fit x hx
    · simp only [List.mem_cons, List.not_mem_nil, or_false] at hx
      rcases hx with rfl | rfl
      · simp [AO.within, belowL, AV.within, ha]
      · rfl
theorem bon_fit {a jk jt : Nat} {s0 : Ses} {ek0 et0 : Nat} (h : SesAt H a jk jt s0 ek0 et0) (hf : Fit H.length H) {K : List AO} {ms : List Nat} (hK : Marks H K ms) (s : Ses) (ek et n : Nat) (ys : List UInt8) (m : Nat) : Fit (bonL H K + m) (bon H K a jk jt s ek et n ys) := by
  have h3 := h.ne.2.2.1
  have hs := sput_fit h hf s ek et
  rw [sput_len] at hs
  unfold bon
  refine Fit.append (Fit.mono (by unfold bonL; omega) hs) (fit_cons ?_ (fit_cons ?_ (fit_cons ?_ (Fit.mono (n := H.length) (by unfold bonL; omega) hK.fit))))
  · have e : a < bonL H K + m := by unfold bonL; omega
    simp [AO.within, belowL, AV.within, e]
  · have e : H.length + 2 < bonL H K + m := by unfold bonL; omega
    simp [AO.within, belowL, AV.within, e]
  · simp [AO.within]
end Go.Ab.Tryz

end

section
set_option linter.unusedSimpArgs false
set_option linter.unusedVariables false
set_option maxHeartbeats 16000000
set_option maxRecDepth 10000
namespace Go.Ab.Tryz
open Go Go.Ab Go.Proofs
attribute [local irreducible] W Wl Wop TrA WSeq WLoopS WLoopM FPost DPost RPost WRound DK onEnd bon bonL
attribute [local simp] belowL_bytesAV belowL_strsM
attribute [local simp high] bon_g0 bon_g1 bon_g2 bon_gM bon_gM0
variable {n0 : Nat} {w0 : World} {gl : Nat → List AV} {H : List AO}

theorem bon_know {a jk jt : Nat} {s0 : Ses} {ek0 et0 : Nat} (h : SesAt H a jk jt s0 ek0 et0) (K : List AO) (s : Ses) (ek et n : Nat) (ys : List UInt8) (l : List AO) (c : AO) : ((bon H K a jk jt s ek et n ys ++ l).set (H.length + 2) .dead).set (H.length + 1) c = sput H a jk jt s ek et ++ (.cells [.ref a 0] :: c :: .dead :: (K ++ l)) := by
  have hF := onF h
  unfold bon
  rw [List.append_assoc, hF.2.2.2.1, hF.2.2.2.1]
  simp
theorem bon_s0 {a : Nat} (v : AO) (K : List AO) (jk jt : Nat) (s : Ses) (ek et n : Nat) (ys : List UInt8) (ha : a < H.length) (l : List AO) : ((bon H K a jk jt s ek et n ys).set a v ++ l)[H.length]? = some (.cells [.ref a 0]) := by
  rw [← setL (B := l) (by rw [bon_len]; unfold bonL; omega), List.getElem?_set_ne (by omega), bon_g0]
class LtF (a n : Nat) : Prop where
  lt : a < n
theorem bon_sF {a : Nat} [q : LtF a H.length] (v : AO) (K : List AO) (jk jt : Nat) (s : Ses) (ek et n : Nat) (ys : List UInt8) (l : List AO) : ((bon H K a jk jt s ek et n ys).set a v ++ l)[H.length]? = some (.cells [.ref a 0]) := bon_s0 v K jk jt s ek et n ys q.lt l
attribute [local simp high] bon_sF
theorem bonG {a : Nat} (ha : a < H.length) (K : List AO) (jk jt : Nat) : (∀ s ek et n ys v l, (bon H K a jk jt s ek et n ys ++ l).set a v = (bon H K a jk jt s ek et n ys).set a v ++ l) ∧ (∀ s ek et n ys v l, ((bon H K a jk jt s ek et n ys).set a v ++ l)[a]? = some v) ∧ (∀ s ek et n ys v w l, ((bon H K a jk jt s ek et n ys).set a v ++ l).set a w = (bon H K a jk jt s ek et n ys).set a w ++ l) ∧ (∀ s ek et n ys v l, ((bon H K a jk jt s ek et n ys).set a v ++ l)[H.length]? = some (.cells [.ref a 0])) := by
  have hl : ∀ s ek et n ys, a < (bon H K a jk jt s ek et n ys).length := fun s ek et n ys => by rw [bon_len]; unfold bonL; omega
  refine ⟨fun s ek et n ys v l => setL (hl ..), fun s ek et n ys v l => ?_, fun s ek et n ys v w l => ?_, fun s ek et n ys v l => bon_s0 v K jk jt s ek et n ys ha l⟩
  · rw [getL (by rw [List.length_set]; exact hl ..), List.getElem?_set_self (hl ..)]
  · rw [setL (by rw [List.length_set]; exact hl ..), List.set_set]
theorem bon_move {a jk jt : Nat} {s : Ses} {ek et : Nat} (h : SesAt H a jk jt s ek et) (K : List AO) (s2 : Ses) (ek2 et2 n : Nat) (ys r : List UInt8) (L : List AO) (i : Nat) (hL : L[i]? = some (.tail 1 r.length)) {v : AO} (hv : v = (.cells [.str s2.host, .int .i64 s2.rc, .int .i64 s2.sz, .sl r.length (bytesAV r) (.at (bonL H K + i) r.length), .int .i64 s2.state, .str s2.fro, .sl s2.to.length (s2.to.map .str) (.at jt et2), .sl s2.body.length (bytesAV s2.body) .ro, .bool s2.told, .bool s2.waits, .bool s2.shut])) : HS (env n0 w0 gl) ((bon H K a jk jt s2 ek2 et2 n ys).set a v ++ L) (bon H K a jk jt { s2 with kept := r } (ek2 + 1) et2 n ys ++ L.set i .dead) := by
  subst hv
  have h3 := h.ne.2.2.1
  unfold bon bonL
  rw [setL (by rw [sput_len]; exact h3), List.append_assoc, List.append_assoc]
  have hT : ∀ (c0 c1 v : AO), (c0 :: c1 :: v :: K ++ L)[K.length + 3 + i]? = some (.tail 1 r.length) := fun c0 c1 v => by
    rw [List.getElem?_append_right (by simp <;> omega)]
    simp only [List.length_cons]
    rw [show K.length + 3 + i - (K.length + 1 + 1 + 1) = i by omega]; exact hL
  have := move_e (n0 := n0) (w0 := w0) (gl := gl) h s2 ek2 et2 r _ (K.length + 3 + i) (hT (.cells [.ref a 0]) (.cells [.vsl (H.length + 2) n]) (.vec 1 ys.length (bytesAV ys)))
  rw [List.set_append_right _ _ (by simp <;> omega)] at this
  simp only [List.length_cons] at this
  rw [show K.length + 3 + i - (K.length + 1 + 1 + 1) = i by omega, ← Nat.add_assoc] at this
  exact this
theorem bon_put {a jk jt : Nat} {s : Ses} {ek et : Nat} (h : SesAt H a jk jt s ek et) (K : List AO) (s3 s4 : Ses) (ek3 et3 n : Nat) (ys : List UInt8) (l : List AO) {v : AO} (hv : v = .cells (sesAV s4 jk ek3 jt et3)) : HS (env n0 w0 gl) ((bon H K a jk jt s3 ek3 et3 n ys).set a v ++ l) (bon H K a jk jt s4 ek3 et3 n ys ++ l) := HS.eq (by
  subst hv
  have := bon_set h K s3 ek3 et3 n ys [] s4
  rw [List.append_nil, List.append_nil] at this
  rw [this])
theorem last_K (K l : List AO) (x y z c d : AO) (i : Nat) : (x :: y :: z :: (K ++ c :: d :: l))[i + 3]? = (K ++ [c, d])[i]? ∨ (K ++ [c, d]).length ≤ i := by
  by_cases hi : i < (K ++ [c, d]).length
  · left
    simp only [List.getElem?_cons_succ]
    rw [show K ++ c :: d :: l = (K ++ [c, d]) ++ l by simp, List.getElem?_append_left hi]
  · right; omega

theorem on_e [hml : GLInt gl 0] [ht : Tab10 n0 w0] {a jk jt : Nat} {s : Ses} {ek et : Nat} (h : SesAt H a jk jt s ek et) (hm : s.Lim) (hk : s.kept.length ≤ 1000000) : AEnter (env n0 w0 gl) 25 [.ref a 0] H (fun y H' => y = .ret (.sl (onS s).1.length (bytesAV (onS s).1) .ro) ∧ H' = sput H a jk jt (onT ⟨s, ek, et⟩).s (onT ⟨s, ek, et⟩).ek (onT ⟨s, ek, et⟩).et) := by
  obtain ⟨h1, h2, h3, h4, h5⟩ := h.ne
  have hkt := h.kt
  refine enter (md := fun _ => 0) Tryz.func25 (fun hfit hgl => ?_)
  refine gos ?_
  refine wseq_normal ?_
  refine gos ?_
  refine wseq_shift (Shift.cellVec 1 (H.length + 1) 0 (xs := [.sl 0 [] .full]) (by simp [getE]) (by simp) rfl rfl) ?_
  simp only [List.append_assoc, List.cons_append, List.nil_append, getE, getE0, setE, setE0, List.set_cons_succ, List.set_cons_zero, List.length_append, List.length_cons, List.length_nil, Nat.zero_add, Nat.reduceAdd]
  repeat' (first | refine go ?_ | (refine br (fun hc => ?_) (fun hc => ?_) <;> try (exfalso; omega)) | fail)
  refine w_loopM (fun i : (List UInt8 × SesT) × (List AO × List Nat) => (.ref a 0 :: .ref H.length 0 :: .sl 0 [] .full :: .ref (H.length + 1) 0 :: .top :: .top :: .top :: .top :: .top :: .top :: .top :: .top :: .top :: .top :: .top :: .top :: .top :: .top :: .top :: .top :: .top :: .top :: .top :: .top :: .top :: .top :: .top :: .top :: .top :: .top :: .top :: .top :: .top :: .top :: .top :: .top :: .top :: .top :: .top :: .top :: .top :: .top :: .top :: .top :: .top :: .top :: .top :: .top :: .top :: .top :: .top :: .top :: .top :: .top :: .top :: .top :: .top :: .top :: .top :: .top :: .top :: .top :: .top :: .top :: .top :: .top :: .top :: .top :: .top :: .top :: .top :: .top :: .top :: .top :: .top :: .top :: .top :: .top :: .top :: .top :: .top :: .top :: .top :: .top :: .top :: .top :: .top :: .top :: .top :: .top :: [])) (fun i => i.2.2.map .mark) (fun i => bon H i.2.1 a jk jt i.1.2.s i.1.2.ek i.1.2.et i.1.1.length i.1.1) (fun i => (i.1.2.s.Lim ∧ i.1.2.s.kept.length ≤ s.kept.length ∧ i.1.1.length + 600 * i.1.2.s.kept.length ≤ 600 * s.kept.length ∧ onS s = (i.1.1 ++ (onS i.1.2.s).1, (onS i.1.2.s).2) ∧ onT ⟨s, ek, et⟩ = onT i.1.2) ∧ Marks H i.2.1 i.2.2) (fun i => i.1.2.s.kept.length) (([], ⟨s, ek, et⟩), ([], [])) ⟨⟨hm, Nat.le_refl _, by simp, by simp, rfl⟩, ⟨List.nodup_nil, fun m hm => by simp at hm, fun x hx => by simp at hx⟩⟩ (h1 := by simp only [bon, sput_same h, List.length_nil]; exact Shift.auto) (hd0 := rfl) ?_
  rintro ⟨⟨out, ⟨s1, ek1, et1⟩⟩, ⟨K, ms⟩⟩ ⟨⟨m1, m2, m3, m4, m5⟩, hK⟩
  simp only at m1 m2 m3 m4 m5 hK ⊢
  have hF := bonF h K
  have hM : bonL H K = H.length + (K.length + 3) := by unfold bonL; rfl
  have hbf := bon_fit h hfit hK
  have hw0 : (SesT.mk s1 ek1 et1).wk s1.kept = SesT.mk s1 ek1 et1 := wk_any fun _ => rfl
  have hh := hF
  have hlines : ∀ s ek et n ys, Ctr (env n0 w0 gl) 36 [.ref a 0] (bon H K a jk jt s ek et n ys) True (.fn 47 [] [.ref (bonL H K) 0]) (bon H K a jk jt s ek et n ys ++ [.cells [.ref a 0]]) := fun s ek et n ys => ⟨fun _ => by
    have := (slines_t (n0 := n0) (w0 := w0) (gl := gl) (H := bon H K a jk jt s ek et n ys) a).call (by rw [bon_len]; omega)
    rw [bon_len] at this; exact this⟩
  have hfc : Fit (bonL H K + 1) [AO.cells [AV.ref a 0]] := by
    have e : a < bonL H K + 1 := by omega
    exact fit_cons (by simp [AO.within, belowL, AV.within, e]) fit_nil
  repeat' (first | refine go ?_ | (refine br (fun hc => ?_) (fun hc => ?_) <;> try (exfalso; omega)) | fail)
  refine overD (fun x => [.sl x.length (bytesAV x) .ro]) (fun (j : List UInt8 × SesT) c => bon H K a jk jt (j.2.wk c).s j.2.ek j.2.et j.1.length j.1 ++ [.cells [.ref a 0]])
    (fun (o : Empty) r => nomatch o) (fun (o : Empty) r => nomatch o) (fun (e : Empty) => nomatch e) (fun _ => .exit 0) lnStep (fun j c => c = nxS j.2.s) (out, ⟨s1, ek1, et1⟩) s1.kept (linesL s1) ?_ ?_ ?_ ?_ ?_ (hH := by simp only [hw0]) (n := bonL H K + 1) (hnc := fun j c => by simp [bon_len]) (hn := by simp [bon_len]) (hns := fun o => nomatch o) (hfits := fun o => nomatch o) (hfit := fun j c => Fit.append (hbf _ _ _ _ _ 1) hfc)
  · intro fn G S T hG hS hr
    exact slines1_t (a := a) (jk := jk) (jt := jt) (id := bonL H K) (n := bonL H K + 1 + 2) (out, ⟨s1, ek1, et1⟩) s1.kept (by omega) (by simp only; omega) hw0 (fun j c k => by simp only [G, List.append_assoc]; exact bon_ses h ..) (fun j c k => by simp only [G, List.append_assoc]; rw [bon_gM0]; rfl) (fun j c c' k => by simp only [G, List.append_assoc]; exact bon_set h ..) (fun j c => by simp [G, bon_len]) hG hr
  · intro fn pre x post j c l hx hj hd hft
    obtain ⟨g1, g2, g3, g4, g7, L, g5, g6⟩ := ln_go pre _ j (x :: post) hx hj m1 (by simp only; omega)
    simp only at g3 g4 g5 g6
    have ew : (j.2.wk c).s = { j.2.s with kept := nxS j.2.s } := by rw [hd]; unfold SesT.wk; simp
    have ew2 : (lnT j.2 x).wk c = lnT j.2 x := wk_any fun _ => by rw [lnT_kept, hd]
    have hst := linesL_len g1
    have hxl : x.length ≤ 1000000 := by omega
    have hco := cmd_out (g2.kept1 (nxS j.2.s)) x
    have hline : ∀ k, Ctr (env n0 w0 gl) 37 [.ref a 0, .sl x.length (bytesAV x) .ro] (bon H K a jk jt { j.2.s with kept := nxS j.2.s } j.2.ek j.2.et j.1.length j.1 ++ k) True (.sl (cmdA { j.2.s with kept := nxS j.2.s } x).1.length (bytesAV (cmdA { j.2.s with kept := nxS j.2.s } x).1) .ro) (bon H K a jk jt (lnT j.2 x).s (lnT j.2 x).ek (lnT j.2 x).et j.1.length j.1 ++ k) := fun k => .of fun _ => by
      have := sline_e (n0 := n0) (w0 := w0) (gl := gl) (bon_ses h K { j.2.s with kept := nxS j.2.s } j.2.ek j.2.et j.1.length j.1 k) (g2.kept1 _) x x.length .ro rfl hxl
      rw [bon_sput h] at this
      exact this
    have hs1 : lnStep j x = .go (j.1 ++ (cmdA { j.2.s with kept := nxS j.2.s } x).1, lnT j.2 x) := rfl
    rw [hs1, ew]
    generalize hsw : ({ j.2.s with kept := nxS j.2.s } : Ses) = sw at hline hco ⊢
    generalize hO : (cmdA sw x).1 = O at hline hco ⊢
    generalize hbd : Code.block 3 _ = bd
    repeat' (first | refine go ?_ | (refine br (fun hc => ?_) (fun hc => ?_) <;> try (exfalso; omega)) | fail)
    rw [← hbd]
    refine w_block ?_
    refine w_drawnP (fun X => X[H.length]? = some (.cells [.ref a 0]) ∧ X[H.length + 1]? = some (.cells [.vsl (H.length + 2) j.1.length])) (by intro l h; injection h with h; subst h; omega) (by simp only [List.length_cons, List.length_nil, Nat.reduceAdd]; exact rfl) ?_
    refine goP ?_
    repeat' (first | refine go ?_ | (refine br (fun hc => ?_) (fun hc => ?_) <;> try (exfalso; omega)) | fail)
    refine .now ⟨rfl, ?_⟩
    simp only [ew2, List.append_assoc, List.cons_append, List.nil_append, List.length_append]
  · intro j c hj
    obtain ⟨g1, g2, g3, g4, g7, L, g5, g6⟩ := ln_go (linesL s1) _ j [] (by simp) hj m1 (by simp only; omega)
    simp only at g3 g4 g5 g6
    have ew : j.2.wk c = j.2 := wk_any fun e => by rw [e, nx_nil g1]
    rw [ew]
    obtain ⟨out2, ⟨s2, ek2, et2⟩⟩ := j
    simp only at g1 g2 g3 g4 g5 g6 ⊢
    rw [g7] at m5
    have hon : onS s = (out2 ++ (onS s2).1, (onS s2).2) := by
      rw [m4, g6, g5]; simp only [List.append_assoc]
    have fin : ∀ l ts s3 ek3 et3, (∀ H', evResults (env n0 w0 gl) Tryz.f25 ts H' = some (.sl out2.length (bytesAV out2) .ro)) → onS s = (out2, s3) → onT ⟨s, ek, et⟩ = ⟨s3, ek3, et3⟩ → (∀ i, l[i + 3]? = (K ++ [AO.cells [AV.ref a 0], AO.defr])[i]? ∨ (K ++ [AO.cells [AV.ref a 0], AO.defr]).length ≤ i) → FPost (env n0 w0 gl) H.length Tryz.f25 (fun y H' => y = AE.ret (.sl (onS s).1.length (bytesAV (onS s).1) .ro) ∧ H' = sput H a jk jt (onT ⟨s, ek, et⟩).s (onT ⟨s, ek, et⟩).ek (onT ⟨s, ek, et⟩).et) .ret ⟨ts, .mark (bonL H K + 1) :: ms.map .mark⟩ (sput H a jk jt s3 ek3 et3 ++ l) := fun l ts s3 ek3 et3 hv e eT hl => by
      have hK2 := hK.more h3
      have hf3 := sput_fit h hfit s3 ek3 et3
      refine fpost_ret_marks hv ((bonL H K + 1) :: ms) _ hK2.nodup (fun m hm => ?_) ?_
      · have hat := hK2.at_ m hm
        obtain ⟨i, rfl⟩ : ∃ i, m = H.length + (i + 3) := ⟨m - (H.length + 3), by omega⟩
        rw [sput_gi]
        have := hat.2.2
        rw [show H.length + (i + 3) - (H.length + 3) = i by omega] at this
        rcases hl i with e2 | e2
        · rw [e2]; exact this
        · rw [List.getElem?_eq_none e2] at this; simp at this
      · obtain ⟨l', e3⟩ := killL_app (A := sput H a jk jt s3 ek3 et3) ((bonL H K + 1) :: ms) l fun m hm => by
          have := (hK2.at_ m hm).1
          rw [sput_len]; omega
        rw [e3, e, eT]
        exact Out.dropS (by rw [sput_len]; exact Nat.le_refl _) hf3 (by simp [AE.within, AV.within]) ⟨rfl, rfl⟩
    have hS := onF h
    by_cases q1 : s2.shut = true
    · have hs0 : stepO s2 = none := by unfold stepO; rw [if_pos (.inl q1)]
      rw [onS_none hs0, List.append_nil] at hon
      rw [onT_none (stepT_none (t := ⟨s2, ek2, et2⟩) hs0)] at m5
      have hh := And.intro q1 (And.intro hF hS)
      repeat' (first | refine gos ?_ | (refine br (fun hc => ?_) (fun hc => ?_) <;> try (exfalso; omega)) | fail)
      refine wseq_shift (Shift.cellKnow (H.length + 1) 0 (H.length + 2) (xs := [.vsl (H.length + 2) out2.length]) (sz := 1) (n := out2.length) (ys := bytesAV out2) (by simp) rfl (by simp) (by simp) (bon_know h ..)) ?_
      simp only [List.set_cons_succ, List.set_cons_zero]
      repeat' (first | refine go ?_ | (refine br (fun hc => ?_) (fun hc => ?_) <;> try (exfalso; omega)) | fail)
      refine wloopM_exit ?_
      repeat' (first | refine go ?_ | (refine br (fun hc => ?_) (fun hc => ?_) <;> try (exfalso; omega)) | fail)
      refine fin _ _ _ _ _ (fun H' => ?_) hon m5 (fun i => last_K ..)
      exact rfl
    simp only [Bool.not_eq_true] at q1
    have hkm : ¬ ((s2.kept.length : Int) > 1000000) := by omega
    by_cases q2 : s2.waits = true
    · have hs0 : stepO s2 = none := by unfold stepO; rw [if_pos (.inr q2)]
      rw [onS_none hs0, List.append_nil] at hon
      rw [onT_none (stepT_none (t := ⟨s2, ek2, et2⟩) hs0)] at m5
      have hh := And.intro q1 (And.intro q2 (And.intro hkm (And.intro hF hS)))
      repeat' (first | refine gos ?_ | (refine br (fun hc => ?_) (fun hc => ?_) <;> try (exfalso; omega)) | fail)
      refine wseq_shift (Shift.cellKnow (H.length + 1) 0 (H.length + 2) (xs := [.vsl (H.length + 2) out2.length]) (sz := 1) (n := out2.length) (ys := bytesAV out2) (by simp) rfl (by simp) (by simp) (bon_know h ..)) ?_
      simp only [List.set_cons_succ, List.set_cons_zero]
      repeat' (first | refine go ?_ | (refine br (fun hc => ?_) (fun hc => ?_) <;> try (exfalso; omega)) | fail)
      refine wloopM_exit ?_
      repeat' (first | refine go ?_ | (refine br (fun hc => ?_) (fun hc => ?_) <;> try (exfalso; omega)) | fail)
      refine fin _ _ _ _ _ (fun H' => ?_) hon m5 (fun i => last_K ..)
      exact rfl
    simp only [Bool.not_eq_true] at q2
    by_cases q3 : ¬ s2.state = 4
    · have hs0 : stepO s2 = none := by
        unfold stepO
        rw [if_neg (by rw [q1, q2]; simp), if_neg q3]
        cases hc : crlfAt s2.kept with
        | none => rfl
        | some p => obtain ⟨x, y⟩ := p; rw [linesL_some (by rw [q1, q2]; simp [q3]) hc] at g1; simp at g1
      rw [onS_none hs0, List.append_nil] at hon
      rw [onT_none (stepT_none (t := ⟨s2, ek2, et2⟩) hs0)] at m5
      have hh := And.intro q1 (And.intro q2 (And.intro q3 (And.intro hkm (And.intro hF hS))))
      repeat' (first | refine gos ?_ | (refine br (fun hc => ?_) (fun hc => ?_) <;> try (exfalso; omega)) | fail)
      refine wseq_shift (Shift.cellKnow (H.length + 1) 0 (H.length + 2) (xs := [.vsl (H.length + 2) out2.length]) (sz := 1) (n := out2.length) (ys := bytesAV out2) (by simp) rfl (by simp) (by simp) (bon_know h ..)) ?_
      simp only [List.set_cons_succ, List.set_cons_zero]
      repeat' (first | refine go ?_ | (refine br (fun hc => ?_) (fun hc => ?_) <;> try (exfalso; omega)) | fail)
      refine wloopM_exit ?_
      repeat' (first | refine go ?_ | (refine br (fun hc => ?_) (fun hc => ?_) <;> try (exfalso; omega)) | fail)
      refine fin _ _ _ _ _ (fun H' => ?_) hon m5 (fun i => last_K ..)
      exact rfl
    have q3 : s2.state = 4 := Decidable.not_not.1 q3
    have hscan : ∀ k, Ctr (env n0 w0 gl) 38 [.sl s2.kept.length (bytesAV s2.kept) (.at jk ek2)] (bon H K a jk jt s2 ek2 et2 out2.length out2 ++ k) True (match scanS s2.kept with
        | none => .tup [.sl 0 [] .full, .sl s2.kept.length (bytesAV s2.kept) .ro, .bool false]
        | some (o, r) => .tup [.sl o.length (bytesAV o) .ro, .sl r.length (bytesAV r) (.at (bonL H K + (k.length + 7)) r.length), .bool true]) (bon H K a jk jt s2 ek2 et2 out2.length out2 ++ (k ++ scanH (scanS s2.kept))) := fun k => .of fun _ => by
      have := scan_t (n0 := n0) (w0 := w0) (gl := gl) (H := bon H K a jk jt s2 ek2 et2 out2.length out2 ++ k) s2.kept (.at jk ek2) (by omega)
      rw [List.length_append, bon_len, Nat.add_assoc, List.append_assoc] at this
      cases hs : scanS s2.kept with
      | none => rw [hs] at this; exact this
      | some q => obtain ⟨o, r⟩ := q; rw [hs] at this; exact this
    cases hs : scanS s2.kept with
    | none =>
      rw [hs] at hscan
      simp only [scanH, List.append_nil] at hscan
      have hs0 : stepO s2 = none := by unfold stepO; rw [if_neg (by rw [q1, q2]; simp), if_pos q3, hs]
      rw [onS_none hs0, List.append_nil] at hon
      rw [onT_none (stepT_none (t := ⟨s2, ek2, et2⟩) hs0)] at m5
      have hh := And.intro q1 (And.intro q2 (And.intro q3 (And.intro hkm (And.intro hF hS))))
      repeat' (first | refine gos ?_ | (refine br (fun hc => ?_) (fun hc => ?_) <;> try (exfalso; omega)) | fail)
      refine wseq_normal ?_
      repeat' (first | refine gos ?_ | (refine br (fun hc => ?_) (fun hc => ?_) <;> try (exfalso; omega)) | fail)
      refine wseq_normal ?_
      repeat' (first | refine gos ?_ | (refine br (fun hc => ?_) (fun hc => ?_) <;> try (exfalso; omega)) | fail)
      refine wseq_normal ?_
      repeat' (first | refine gos ?_ | (refine br (fun hc => ?_) (fun hc => ?_) <;> try (exfalso; omega)) | fail)
      refine wseq_normal ?_
      repeat' (first | refine gos ?_ | (refine br (fun hc => ?_) (fun hc => ?_) <;> try (exfalso; omega)) | fail)
      refine wseq_shift (Shift.cellKnow (H.length + 1) 0 (H.length + 2) (xs := [.vsl (H.length + 2) out2.length]) (sz := 1) (n := out2.length) (ys := bytesAV out2) (by simp) rfl (by simp) (by simp) (bon_know h ..)) ?_
      simp only [List.set_cons_succ, List.set_cons_zero]
      repeat' (first | refine go ?_ | (refine br (fun hc => ?_) (fun hc => ?_) <;> try (exfalso; omega)) | fail)
      refine wloopM_exit ?_
      repeat' (first | refine go ?_ | (refine br (fun hc => ?_) (fun hc => ?_) <;> try (exfalso; omega)) | fail)
      refine fin _ _ _ _ _ (fun H' => ?_) hon m5 (fun i => last_K ..)
      exact rfl
    | some p =>
      obtain ⟨o, r⟩ := p
      rw [hs] at hscan
      simp only [scanH] at hscan
      have hlen := scanS_len hs
      have hG := bonG h3 K jk jt
      have hh := And.intro q1 (And.intro q2 (And.intro q3 (And.intro hkm (And.intro hF hG))))
      repeat' (first | refine gos ?_ | (refine br (fun hc => ?_) (fun hc => ?_) <;> try (exfalso; omega)) | fail)
      refine wseq_normal ?_
      repeat' (first | refine gos ?_ | (refine br (fun hc => ?_) (fun hc => ?_) <;> try (exfalso; omega)) | fail)
      refine wseq_normal ?_
      repeat' (first | refine gos ?_ | (refine br (fun hc => ?_) (fun hc => ?_) <;> try (exfalso; omega)) | fail)
      refine wseq_normal ?_
      repeat' (first | refine gos ?_ | (refine br (fun hc => ?_) (fun hc => ?_) <;> try (exfalso; omega)) | fail)
      refine wseq_normal ?_
      repeat' (first | refine gos ?_ | (refine br (fun hc => ?_) (fun hc => ?_) <;> try (exfalso; omega)) | fail)
      refine wseq_normal ?_
      repeat' (first | refine gos ?_ | (refine br (fun hc => ?_) (fun hc => ?_) <;> try (exfalso; omega)) | fail)
      refine wseq_normal ?_
      repeat' (first | refine gos ?_ | (refine br (fun hc => ?_) (fun hc => ?_) <;> try (exfalso; omega)) | fail)
      refine wseq_shift (Shift.hs (bon_move h K s2 ek2 et2 _ _ r _ 10 (by rfl) (by rw [q1, q2, q3]))) ?_
      simp only [List.set_cons_succ, List.set_cons_zero]
      have hsz := m1.sz
      by_cases q4 : (o.length : Int) ≤ s2.sz
      · have hh := And.intro q1 (And.intro q2 (And.intro q3 (And.intro hkm (And.intro q4 (And.intro hF hG)))))
        generalize hr10 : Code.region 10 _ _ = rg
        repeat' (first | refine gos ?_ | (refine br (fun hc => ?_) (fun hc => ?_) <;> try (exfalso; omega)) | fail)
        refine wseq_normal ?_
        repeat' (first | refine gos ?_ | (refine br (fun hc => ?_) (fun hc => ?_) <;> try (exfalso; omega)) | fail)
        rw [← hr10]
        haveI : LtF a H.length := ⟨h3⟩
        refine w_drawnP (fun X => X[H.length]? = some (.cells [.ref a 0])) (by intro _ h; cases h) (by simp only [List.length_cons, List.length_nil, Nat.reduceAdd]; exact rfl) ?_
        refine goP ?_
        repeat' (first | refine go ?_ | (refine br (fun hc => ?_) (fun hc => ?_) <;> try (exfalso; omega)) | fail)
        refine wloopM_exit ?_
        repeat' (first | refine gos ?_ | (refine br (fun hc => ?_) (fun hc => ?_) <;> try (exfalso; omega)) | fail)
        have hs1 : stepO s2 = some ([], { s2 with kept := r, body := o, waits := true }) := by
          unfold stepO; rw [if_neg (by rw [q1, q2]; simp), if_pos q3, hs]
          exact if_pos q4
        have hs2 : stepO { s2 with kept := r, body := o, waits := true } = none := by unfold stepO; rw [if_pos (.inr rfl)]
        rw [onS_some hs1, onS_none hs2, List.append_nil, List.append_nil] at hon
        have hT1 : stepT ⟨s2, ek2, et2⟩ = some ([], ⟨{ s2 with kept := r, body := o, waits := true }, ek2 + 1, et2⟩) := by
          unfold stepT; rw [if_neg (by simp only [q1, q2]; simp), if_pos q3]
          simp only [hs]
          exact if_pos q4
        rw [onT_some hT1, onT_none (stepT_none (t := ⟨{ s2 with kept := r, body := o, waits := true }, ek2 + 1, et2⟩) hs2)] at m5
        refine wseq_shift ((Shift.hs (bon_put h K _ { s2 with kept := r, body := o, waits := true } (ek2 + 1) et2 out2.length out2 _ (by simp only [sesAV, q1, q2, q3]))).trans (Shift.cellKnow (H.length + 1) 0 (H.length + 2) (xs := [.vsl (H.length + 2) out2.length]) (sz := 1) (n := out2.length) (ys := bytesAV out2) (by simp) rfl (by simp) (by simp) (bon_know h ..))) ?_
        simp only [List.set_cons_succ, List.set_cons_zero]
        have hkm3 : ¬ ((r.length : Int) > 1000000) := by omega
        have hh := And.intro q1 (And.intro hkm3 (And.intro hF hS))
        repeat' (first | refine go ?_ | (refine br (fun hc => ?_) (fun hc => ?_) <;> try (exfalso; omega)) | fail)
        refine fin _ _ _ _ _ (fun H' => ?_) hon m5 (fun i => last_K ..)
        exact rfl
      · have hs1 : stepO s2 = some ([53, 53, 50, 32, 115, 105, 122, 101, 13, 10], { s2 with kept := r }.clear) := by
          unfold stepO; rw [if_neg (by rw [q1, q2]; simp), if_pos q3, hs]
          exact if_neg q4
        rw [onS_some hs1, ← List.append_assoc] at hon
        have hT1 : stepT ⟨s2, ek2, et2⟩ = some ([53, 53, 50, 32, 115, 105, 122, 101, 13, 10], ⟨({ s2 with kept := r } : Ses).clear, ek2 + 1, et2 + 1⟩) := by
          unfold stepT; rw [if_neg (by simp only [q1, q2]; simp), if_pos q3]
          simp only [hs]
          exact if_neg q4
        rw [onT_some hT1] at m5
        have hclear : ∀ n ys k, Ctr (env n0 w0 gl) 29 [.ref a 0] (bon H K a jk jt { s2 with kept := r } (ek2 + 1) et2 n ys ++ k) True (.tup []) (bon H K a jk jt { s2 with kept := r }.clear (ek2 + 1) (et2 + 1) n ys ++ k) := fun n ys k => .of fun _ => by
          have := clear_e (n0 := n0) (w0 := w0) (gl := gl) (bon_ses h K { s2 with kept := r } (ek2 + 1) et2 n ys k)
          rw [bon_sput h] at this; exact this
        have hA10 : ∀ s ek et l, (bon H K a jk jt s ek et out2.length out2 ++ l).set (H.length + 2) (.vec 1 (out2.length + 10) (bytesAV out2 ++ bytesAV [53, 53, 50, 32, 115, 105, 122, 101, 13, 10])) = bon H K a jk jt s ek et out2.length (out2 ++ [53, 53, 50, 32, 115, 105, 122, 101, 13, 10]) ++ l := fun s ek et l => hF.2.2.2.2.2.2.1 s ek et out2.length out2 l [53, 53, 50, 32, 115, 105, 122, 101, 13, 10]
        have hh := And.intro q4 (And.intro hA10 hF)
        generalize hr11 : Code.region 11 _ _ = rg
        repeat' (first | refine gos ?_ | (refine br (fun hc => ?_) (fun hc => ?_) <;> try (exfalso; omega)) | fail)
        refine wseq_normal ?_
        repeat' (first | refine gos ?_ | (refine br (fun hc => ?_) (fun hc => ?_) <;> try (exfalso; omega)) | fail)
        refine wseq_normal ?_
        repeat' (first | refine gos ?_ | (refine br (fun hc => ?_) (fun hc => ?_) <;> try (exfalso; omega)) | fail)
        rw [← hr11]
        refine w_drawnP (fun X => X[H.length + 1]? = some (.cells [.vsl (H.length + 2) out2.length])) (by intro _ h; cases h) (by simp only [List.length_cons, List.length_nil, Nat.reduceAdd]; exact rfl) ?_
        refine goP ?_
        repeat' (first | refine go ?_ | (refine br (fun hc => ?_) (fun hc => ?_) <;> try (exfalso; omega)) | fail)
        have hK2 := hK.more h3
        refine againM ((out2 ++ [53, 53, 50, 32, 115, 105, 122, 101, 13, 10], ⟨({ s2 with kept := r } : Ses).clear, ek2 + 1, et2 + 1⟩), (K ++ [.cells [.ref a 0], .defr], (bonL H K + 1) :: ms)) ⟨⟨(g2.kept1 r).clear, ?_, ?_, hon, m5⟩, hK2⟩ ?_ rfl ?_
        · simp only [Ses.clear]; omega
        · simp only [Ses.clear, List.length_append, List.length_cons, List.length_nil]; omega
        · simp only [Ses.clear]; omega
        · have hbf2 := bon_fit h hfit hK2 ({ s2 with kept := r } : Ses).clear (ek2 + 1) (et2 + 1) (out2.length + 10) (out2 ++ [53, 53, 50, 32, 115, 105, 122, 101, 13, 10]) 0
          have hM2 : bonL H (K ++ [AO.cells [AV.ref a 0], AO.defr]) = H.length + (K.length + 5) := by unfold bonL; simp
          have e : bon H K a jk jt ({ s2 with kept := r } : Ses).clear (ek2 + 1) (et2 + 1) (out2.length + 10) (out2 ++ [53, 53, 50, 32, 115, 105, 122, 101, 13, 10]) ++ [AO.cells [AV.ref a 0], .defr, .dead, .dead, .dead, .dead, .dead, .dead, .dead, .dead, .dead, .tail 1 10] = bon H (K ++ [.cells [.ref a 0], .defr]) a jk jt ({ s2 with kept := r } : Ses).clear (ek2 + 1) (et2 + 1) (out2.length + 10) (out2 ++ [53, 53, 50, 32, 115, 105, 122, 101, 13, 10]) ++ [.dead, .dead, .dead, .dead, .dead, .dead, .dead, .dead, .dead, .tail 1 10] := by
            rw [bon_app, bon_app]; simp
          rw [e]
          simp only [List.length_append, List.length_cons, List.length_nil, Nat.zero_add, Nat.reduceAdd]
          refine Shift.fgt_drop (by repeat (first | exact fgt_nil | refine fgt_top ?_ | refine fgt_same rfl ?_)) hgl (by rw [bon_len]; omega) (by rw [bon_len]; exact hbf2) ?_ ?_
          · rw [bon_len]
            have e1 : a < bonL H (K ++ [AO.cells [AV.ref a 0], AO.defr]) := by omega
            have e2 : H.length < bonL H (K ++ [AO.cells [AV.ref a 0], AO.defr]) := by omega
            have e3 : H.length + 1 < bonL H (K ++ [AO.cells [AV.ref a 0], AO.defr]) := by omega
            simp [belowL, AV.within, e1, e2, e3]
          · rw [bon_len, List.all_eq_true]
            intro d hd
            obtain ⟨m, hm, rfl⟩ := List.mem_map.1 hd
            have := (hK2.at_ m hm).2.1
            simpa [ADef.within] using this
  · intro o; nomatch o
  · intro fn e; nomatch e

end Go.Ab.Tryz

end

section
set_option linter.unusedSimpArgs false
set_option linter.unusedVariables false
set_option maxHeartbeats 8000000
set_option maxRecDepth 10000
namespace Go.Ab.Tryz
open Go Go.Ab Go.Proofs
attribute [local irreducible] W Wl Wop TrA WSeq WLoopS WLoopM FPost DPost RPost WRound DK onEnd
attribute [local simp] belowL_bytesAV belowL_strsM
variable {n0 : Nat} {w0 : World} {gl : Nat → List AV} {H : List AO}

theorem answer_off {a jk jt : Nat} {s : Ses} {ek et : Nat} (h : SesAt H a jk jt s ek et) (hr : s.rc ≠ 0) (c : Int) (ho : s.shut = true ∨ s.waits = false) : AEnter (env n0 w0 gl) 16 [.ref a 0, .int .i64 c] H (fun y H' => y = .ret (.sl 0 [] .full) ∧ H' = H) := by
  have hA : H[a]? = some (.cells [.str s.host, .int .i64 s.rc, .int .i64 s.sz, .sl s.kept.length (bytesAV s.kept) (.at jk ek), .int .i64 s.state, .str s.fro, .sl s.to.length (s.to.map .str) (.at jt et), .sl s.body.length (bytesAV s.body) .ro, .bool s.told, .bool s.waits, .bool s.shut]) := h.cells
  have hcl : Ctr (env n0 w0 gl) 19 [.ref a 0] H True (.bool s.shut) H := .of fun _ => closed_e h hr
  by_cases q : s.shut = true
  · have hh := And.intro hA q
    refine enter (md := fun _ => 0) Tryz.func16 (fun hfit hgl => ?_)
    repeat' (first | refine go ?_ | (refine br (fun hc => ?_) (fun hc => ?_) <;> try (exfalso; omega)) | fail)
    exact .now ⟨rfl, rfl⟩
  · have q2 := ho.resolve_left q
    simp only [Bool.not_eq_true] at q
    have hh := And.intro hA (And.intro q q2)
    refine enter (md := fun _ => 0) Tryz.func16 (fun hfit hgl => ?_)
    repeat' (first | refine go ?_ | (refine br (fun hc => ?_) (fun hc => ?_) <;> try (exfalso; omega)) | fail)
    exact .now ⟨rfl, rfl⟩

theorem answer_on [hml : GLInt gl 0] [ht : Tab10 n0 w0] {a jk jt : Nat} {s : Ses} {ek et : Nat} (h : SesAt H a jk jt s ek et) (hm : s.Lim) (hk : s.kept.length ≤ 1000000) (c : Int) (q1 : s.shut = false) (q2 : s.waits = true) (hc : -9223372036854775808 ≤ c ∧ c ≤ 9223372036854775807) : AEnter (env n0 w0 gl) 16 [.ref a 0, .int .i64 c] H (fun y H' => y = .ret (.sl (answerS s c).1.length (bytesAV (answerS s c).1) .ro) ∧ H' = sput H a jk jt (onT ⟨s.clear, ek, et + 1⟩).s (onT ⟨s.clear, ek, et + 1⟩).ek (onT ⟨s.clear, ek, et + 1⟩).et) := by
  have hA : H[a]? = some (.cells [.str s.host, .int .i64 s.rc, .int .i64 s.sz, .sl s.kept.length (bytesAV s.kept) (.at jk ek), .int .i64 s.state, .str s.fro, .sl s.to.length (s.to.map .str) (.at jt et), .sl s.body.length (bytesAV s.body) .ro, .bool s.told, .bool s.waits, .bool s.shut]) := h.cells
  have hr : s.rc ≠ 0 := by have := hm.rc; omega
  have hcl : Ctr (env n0 w0 gl) 19 [.ref a 0] H True (.bool s.shut) H := .of fun _ => closed_e h hr
  have hcr : Ctr (env n0 w0 gl) 29 [.ref a 0] H True (.tup []) (sput H a jk jt s.clear ek (et + 1)) := .of fun _ => clear_e h
  have hon : ∀ l, Ctr (env n0 w0 gl) 25 [.ref a 0] (sput H a jk jt s.clear ek (et + 1) ++ l) True (.sl (onS s.clear).1.length (bytesAV (onS s.clear).1) .ro) (sput H a jk jt (onT ⟨s.clear, ek, et + 1⟩).s (onT ⟨s.clear, ek, et + 1⟩).ek (onT ⟨s.clear, ek, et + 1⟩).et ++ l) := fun l => .of fun _ => by
    have := on_e (n0 := n0) (w0 := w0) (gl := gl) ((sput_at h s.clear ek (et + 1)).app l) hm.clear hk
    rw [sput_app (sput_at h _ _ _), sput_put h] at this
    exact this
  have hw : IntKind.i64.wrap (c.tdiv 100) = c.tdiv 100 := by
    have e : (c.tdiv 100).natAbs = c.natAbs / 100 := Int.natAbs_tdiv c 100
    exact wrap_i64 (by omega) (by omega)
  have hout := on_out s.clear hm.clear hk
  have hk2 : s.clear.kept.length ≤ 1000000 := hk
  have hh := And.intro hA (And.intro q1 (And.intro q2 (And.intro hw (onF h))))
  refine enter (md := fun _ => 0) Tryz.func16 (fun hfit hgl => ?_)
  repeat' (first | refine go ?_ | (refine br (fun hc => ?_) (fun hc => ?_) <;> try (exfalso; omega)) | fail)
  · refine out_ses h hfit (o := (answerS s c).1) (onT ⟨s.clear, ek, et + 1⟩).s _ _ rfl ?_ ?_ <;> (unfold answerS replyS; rw [if_neg (by rw [q1, q2]; simp)]; simp [*, bytesAV] <;> omega)
  · refine out_ses h hfit (o := (answerS s c).1) (onT ⟨s.clear, ek, et + 1⟩).s _ _ rfl ?_ ?_ <;> (unfold answerS replyS; rw [if_neg (by rw [q1, q2]; simp)]; simp [*, bytesAV] <;> omega)
  · refine out_ses h hfit (o := (answerS s c).1) (onT ⟨s.clear, ek, et + 1⟩).s _ _ rfl ?_ ?_ <;> (unfold answerS replyS; rw [if_neg (by rw [q1, q2]; simp)]; simp [*, bytesAV] <;> omega)

theorem feed_off {a jk jt : Nat} {s : Ses} {ek et : Nat} (h : SesAt H a jk jt s ek et) (hr : s.rc ≠ 0) (n : Nat) (xs : List AV) (tok : Tok) (q : s.shut = true) : AEnter (env n0 w0 gl) 12 [.ref a 0, .sl n xs tok] H (fun y H' => y = .ret (.sl 0 [] .full) ∧ H' = H) := by
  have hcl : Ctr (env n0 w0 gl) 19 [.ref a 0] H True (.bool s.shut) H := .of fun _ => closed_e h hr
  have hh := q
  refine enter (md := fun _ => 0) Tryz.func12 (fun hfit hgl => ?_)
  repeat' (first | refine go ?_ | (refine br (fun hc => ?_) (fun hc => ?_) <;> try (exfalso; omega)) | fail)
  exact .now ⟨rfl, rfl⟩

end Go.Ab.Tryz

end

section
set_option linter.unusedSimpArgs false
set_option linter.unusedVariables false
set_option maxHeartbeats 8000000
set_option maxRecDepth 10000
namespace Go.Ab
open Go Go.RowKit
variable {E : Env} {N : Nat} {ts : List AV} {ds : List ADef} {g : Ghost} {H : List AO} {w : World}
/-- A place for a room stands ready. -/
theorem HS.tail (sz : Nat) : HS E H (H ++ [.tail sz 0]) := fun g w hr => by
  obtain ⟨g', h1, h2, _⟩ := Rep.no_room hr sz none
  exact ⟨g', h1, h2⟩
theorem aggW {g : Ghost} {xs ys : List AV} {c : Value} (hl : ys.length = xs.length) (h : ∀ i c, VRel g (xs.getD i .top) c → VRel g (ys.getD i .top) c) (r : VRel g (.agg xs) c) : VRel g (.agg ys) c := by
  cases r with
  | agg _ cs h1 h2 => exact .agg _ _ (h1.trans hl.symm) (fun i => h i _ (h2 i))
/-- What lies at a place, whatever stands behind. -/
class AtF (H : List AO) (a : Nat) (c : outParam AO) : Prop where
  at_ : ∀ l, (H ++ l)[a]? = some c
theorem atF_app {a : Nat} {c : AO} [q : AtF H a c] (l : List AO) : (H ++ l)[a]? = some c := q.at_ l
theorem atF_self {a : Nat} {c : AO} [q : AtF H a c] : H[a]? = some c := by have := q.at_ []; rwa [List.append_nil] at this
theorem AtF.of {a : Nat} {c : AO} (h : H[a]? = some c) : AtF H a c := ⟨fun l => by rw [List.getElem?_append_left (List.getElem?_eq_some_iff.1 h).1]; exact h⟩
end Go.Ab
namespace Go.Ab.Tryz
open Go Go.Ab Go.Proofs
attribute [local irreducible] W Wl Wop TrA WSeq WLoopS WLoopM FPost DPost RPost WRound DK onEnd
attribute [local simp] belowL_bytesAV belowL_strsM
variable {n0 : Nat} {w0 : World} {gl : Nat → List AV} {H : List AO}

/-- Bytes fed, the rooms' names with them. -/
noncomputable def feedT (t : SesT) (b : List UInt8) : SesT := if t.s.shut = true then t else onT ⟨{ t.s with kept := t.s.kept ++ b, told := true }, t.ek + b.length, t.et⟩
theorem feedT_s (t : SesT) (b : List UInt8) : (feedT t b).s = (feedS t.s b).2 := by
  unfold feedT feedS
  split
  · rfl
  · exact onT_s _
theorem hi_len {s : Ses} (hm : s.Lim) : (hiS s).length ≤ 1100 := by
  have := hm.host
  unfold hiS; split
  · simp
  · simp only [List.length_append, List.length_cons, List.length_nil]; omega
theorem feed_e [hml : GLInt gl 0] [ht : Tab10 n0 w0] {a jk jt : Nat} {s : Ses} {ek et : Nat} (h : SesAt H a jk jt s ek et) (hm : s.Lim) (b : List UInt8) (tok : Tok) (hk : s.kept.length + b.length ≤ 1000000) : AEnter (env n0 w0 gl) 12 [.ref a 0, .sl b.length (bytesAV b) tok] H (fun y H' => y = .ret (.sl (feedS s b).1.length (bytesAV (feedS s b).1) .ro) ∧ H' = sput H a jk jt (feedT ⟨s, ek, et⟩ b).s (feedT ⟨s, ek, et⟩ b).ek (feedT ⟨s, ek, et⟩ b).et) := by
  have hA : H[a]? = some (.cells [.str s.host, .int .i64 s.rc, .int .i64 s.sz, .sl s.kept.length (bytesAV s.kept) (.at jk ek), .int .i64 s.state, .str s.fro, .sl s.to.length (s.to.map .str) (.at jt et), .sl s.body.length (bytesAV s.body) .ro, .bool s.told, .bool s.waits, .bool s.shut]) := h.cells
  have hr : s.rc ≠ 0 := by have := hm.rc; omega
  have hcl : Ctr (env n0 w0 gl) 19 [.ref a 0] H True (.bool s.shut) H := .of fun _ => closed_e h hr
  by_cases q1 : s.shut = true
  · have e1 : feedS s b = ([], s) := by unfold feedS; rw [if_pos q1]
    have e2 : feedT ⟨s, ek, et⟩ b = ⟨s, ek, et⟩ := by unfold feedT; rw [if_pos q1]
    rw [e1, e2]
    simp only
    rw [sput_same h]
    have hh := q1
    refine enter (md := fun _ => 0) Tryz.func12 (fun hfit hgl => ?_)
    repeat' (first | refine go ?_ | (refine br (fun hc => ?_) (fun hc => ?_) <;> try (exfalso; omega)) | fail)
    exact .weak (b := .sl 0 [] .ro) (fun g c h => sl_ro g c h) (.now ⟨rfl, rfl⟩)
  simp only [Bool.not_eq_true] at q1
  obtain ⟨h1, h2, h3, h4, h5⟩ := h.ne
  obtain ⟨s2, hs2⟩ : ∃ s2, s2 = ({ s with kept := s.kept ++ b, told := true } : Ses) := ⟨_, rfl⟩
  have hm2 : s2.Lim := by rw [hs2]; exact hm.kept _ _
  have hk2 : s2.kept.length ≤ 1000000 := by rw [hs2]; simpa using hk
  have e1 : feedS s b = (hiS s ++ (onS s2).1, (onS s2).2) := by unfold feedS; rw [if_neg (by rw [q1]; simp), hs2]
  have e2 : feedT ⟨s, ek, et⟩ b = onT ⟨s2, ek + b.length, et⟩ := by unfold feedT; rw [if_neg (by simp only [q1]; simp), hs2]
  rw [e1, e2]
  simp only
  have hJ := h.hk
  have hon : ∀ l, Ctr (env n0 w0 gl) 25 [.ref a 0] (sput H a jk jt s2 (ek + b.length) et ++ l) True (.sl (onS s2).1.length (bytesAV (onS s2).1) .ro) (sput H a jk jt (onT ⟨s2, ek + b.length, et⟩).s (onT ⟨s2, ek + b.length, et⟩).ek (onT ⟨s2, ek + b.length, et⟩).et ++ l) := fun l => .of fun _ => by
    have := on_e (n0 := n0) (w0 := w0) (gl := gl) ((sput_at h s2 (ek + b.length) et).app l) hm2 hk2
    rw [sput_app (sput_at h _ _ _), sput_put h] at this
    exact this
  have hon0 : Ctr (env n0 w0 gl) 25 [.ref a 0] (sput H a jk jt s2 (ek + b.length) et) True (.sl (onS s2).1.length (bytesAV (onS s2).1) .ro) (sput H a jk jt (onT ⟨s2, ek + b.length, et⟩).s (onT ⟨s2, ek + b.length, et⟩).ek (onT ⟨s2, ek + b.length, et⟩).et) := ⟨fun _ => by
    have := (hon []).call trivial
    rw [List.append_nil, List.append_nil] at this; exact this⟩
  have hout := on_out s2 hm2 hk2
  have hP : ∀ td, (H.set jk (AO.tail 1 (ek + b.length))).set a (.cells [.str s.host, .int .i64 s.rc, .int .i64 s.sz, .sl (s.kept.length + b.length) (bytesAV s.kept ++ bytesAV b) (.at jk (ek + b.length)), .int .i64 s.state, .str s.fro, .sl s.to.length (s.to.map .str) (.at jt et), .sl s.body.length (bytesAV s.body) .ro, .bool td, .bool s.waits, .bool false]) = sput H a jk jt { s2 with told := td } (ek + b.length) et := fun td => by
    unfold sput
    rw [set_same (A := H.set jk (.tail 1 (ek + b.length))) (i := jt) (o := .tail 1 et) (by rw [List.getElem?_set_ne h.kt]; exact h.ht)]
    simp [sesAV, bytesAV, q1, hs2]
  have hs2t : ({ s2 with told := true } : Ses) = s2 := by rw [hs2]
  have hPt := hP true
  rw [hs2t] at hPt
  by_cases q2 : s.told = true
  · have hS : ∀ x, (H.set jk x)[a]? = some (.cells [.str s.host, .int .i64 s.rc, .int .i64 s.sz, .sl s.kept.length (bytesAV s.kept) (.at jk ek), .int .i64 s.state, .str s.fro, .sl s.to.length (s.to.map .str) (.at jt et), .sl s.body.length (bytesAV s.body) .ro, .bool s.told, .bool s.waits, .bool s.shut]) := fun x => by rw [List.getElem?_set_ne (Ne.symm h1)]; exact h.cells
    have hhi : hiS s = [] := by unfold hiS; rw [if_pos q2]
    rw [hhi, List.nil_append]
    have hh := And.intro hA (And.intro q1 (And.intro q2 (And.intro hJ (And.intro hS hPt))))
    refine enter (md := fun _ => 0) Tryz.func12 (fun hfit hgl => ?_)
    repeat' (first | refine go ?_ | (refine br (fun hc => ?_) (fun hc => ?_) <;> try (exfalso; omega)) | fail)
    exact out_ses h hfit (o := (onS s2).1) (onT ⟨s2, ek + b.length, et⟩).s _ _ rfl rfl rfl
  · simp only [Bool.not_eq_true] at q2
    have hhi : hiS s = [50, 50, 48, 32] ++ (s.host ++ [32, 114, 101, 97, 100, 121, 13, 10]) := by unfold hiS; rw [if_neg (by rw [q2]; simp)]
    have hhl := hi_len hm
    have hho := hm.host
    obtain ⟨H1, hH1⟩ : ∃ H1, H.set a (.cells [.str s.host, .int .i64 s.rc, .int .i64 s.sz, .sl s.kept.length (bytesAV s.kept) (.at jk ek), .int .i64 s.state, .str s.fro, .sl s.to.length (s.to.map .str) (.at jt et), .sl s.body.length (bytesAV s.body) .ro, .bool true, .bool s.waits, .bool false]) = H1 := ⟨_, rfl⟩
    have hl1 : H1.length = H.length := by rw [← hH1]; simp
    have g1 : ∀ B, (H1 ++ B)[jk]? = some (.tail 1 ek) := fun B => by rw [getL (by omega), ← hH1, List.getElem?_set_ne h1]; exact h.hk
    have g2 : ∀ B, (H1 ++ B)[a]? = some (.cells [.str s.host, .int .i64 s.rc, .int .i64 s.sz, .sl s.kept.length (bytesAV s.kept) (.at jk ek), .int .i64 s.state, .str s.fro, .sl s.to.length (s.to.map .str) (.at jt et), .sl s.body.length (bytesAV s.body) .ro, .bool true, .bool s.waits, .bool false]) := fun B => by rw [getL (by omega), ← hH1, List.getElem?_set_self h3]
    have g3 : ∀ B Y, (H1 ++ B).set jk Y = H1.set jk Y ++ B := fun B Y => setL (by omega)
    have g4 : ∀ B Y, (H1.set jk Y ++ B)[a]? = some (.cells [.str s.host, .int .i64 s.rc, .int .i64 s.sz, .sl s.kept.length (bytesAV s.kept) (.at jk ek), .int .i64 s.state, .str s.fro, .sl s.to.length (s.to.map .str) (.at jt et), .sl s.body.length (bytesAV s.body) .ro, .bool true, .bool s.waits, .bool false]) := fun B Y => by rw [getL (by rw [List.length_set]; omega), List.getElem?_set_ne (Ne.symm h1), ← hH1, List.getElem?_set_self h3]
    have g5 : ∀ B, (H1.set jk (AO.tail 1 (ek + b.length)) ++ B).set a (.cells [.str s.host, .int .i64 s.rc, .int .i64 s.sz, .sl (s.kept.length + b.length) (bytesAV s.kept ++ bytesAV b) (.at jk (ek + b.length)), .int .i64 s.state, .str s.fro, .sl s.to.length (s.to.map .str) (.at jt et), .sl s.body.length (bytesAV s.body) .ro, .bool true, .bool s.waits, .bool false]) = sput H a jk jt s2 (ek + b.length) et ++ B := fun B => by
      rw [setL (by rw [List.length_set]; omega), ← hPt, ← hH1, List.set_comm _ _ h1, List.set_set]
    have hF := atF hA
    have hh := And.intro hA (And.intro q1 (And.intro q2 (And.intro hF (And.intro hH1 (And.intro g1 (And.intro g2 (And.intro g3 (And.intro g4 (And.intro g5 (onF h))))))))))
    refine enter (md := fun _ => 0) Tryz.func12 (fun hfit hgl => ?_)
    rw [hhi]
    repeat' (first | refine go ?_ | (refine br (fun hc => ?_) (fun hc => ?_) <;> try (exfalso; omega)) | fail)
    refine out_ses h hfit (o := [50, 50, 48, 32] ++ (s.host ++ [32, 114, 101, 97, 100, 121, 13, 10]) ++ (onS s2).1) (onT ⟨s2, ek + b.length, et⟩).s _ _ rfl ?_ ?_
    · simp only [List.length_append, List.length_cons, List.length_nil]; omega
    · simp [bytesAV]

/-- What a session has pending. -/
def pendV (s : Ses) : AV := .tup [.agg [.str s.fro, .sl s.to.length (s.to.map .str) .ro, .int .i64 0], .sl s.body.length (bytesAV s.body) .ro, .bool true]
def pend0 : AV := .tup [.agg [.str [], .sl 0 [] .full, .int .i64 0], .sl 0 [] .full, .bool false]
theorem pend_off {a jk jt : Nat} {s : Ses} {ek et : Nat} (h : SesAt H a jk jt s ek et) (hr : s.rc ≠ 0) (ho : s.shut = true ∨ s.waits = false) : AEnter (env n0 w0 gl) 14 [.ref a 0] H (fun y H' => y = .ret pend0 ∧ H' = H) := by
  have hA : H[a]? = some (.cells [.str s.host, .int .i64 s.rc, .int .i64 s.sz, .sl s.kept.length (bytesAV s.kept) (.at jk ek), .int .i64 s.state, .str s.fro, .sl s.to.length (s.to.map .str) (.at jt et), .sl s.body.length (bytesAV s.body) .ro, .bool s.told, .bool s.waits, .bool s.shut]) := h.cells
  have hB := fun l => (h.app l).cells
  have hcl : ∀ l, Ctr (env n0 w0 gl) 19 [.ref a 0] (H ++ l) True (.bool s.shut) (H ++ l) := fun l => .of fun _ => closed_e (h.app l) hr
  unfold pend0
  by_cases q : s.shut = true
  · have hh := q
    refine enter (md := fun _ => 0) Tryz.func14 (fun hfit hgl => ?_)
    repeat' (first | refine go ?_ | (refine br (fun hc => ?_) (fun hc => ?_) <;> try (exfalso; omega)) | fail)
    exact .junkd ⟨rfl, rfl⟩
  · have q2 := ho.resolve_left q
    simp only [Bool.not_eq_true] at q
    have hF := atF hA
    have hh := And.intro hA (And.intro q (And.intro q2 hF))
    refine enter (md := fun _ => 0) Tryz.func14 (fun hfit hgl => ?_)
    repeat' (first | refine go ?_ | (refine br (fun hc => ?_) (fun hc => ?_) <;> try (exfalso; omega)) | fail)
    exact .junkd ⟨rfl, rfl⟩
attribute [local simp high] atF_app atF_self
theorem pend_on {a jk jt : Nat} {s : Ses} {ek et : Nat} (h : SesAt H a jk jt s ek et) (hr : s.rc ≠ 0) (hm : s.Lim) (hb : s.body.length ≤ 1000000) (q1 : s.shut = false) (q2 : s.waits = true) : AEnter (env n0 w0 gl) 14 [.ref a 0] H (fun y H' => y = .ret (pendV s) ∧ H' = H) := by
  have hA : H[a]? = some (.cells [.str s.host, .int .i64 s.rc, .int .i64 s.sz, .sl s.kept.length (bytesAV s.kept) (.at jk ek), .int .i64 s.state, .str s.fro, .sl s.to.length (s.to.map .str) (.at jt et), .sl s.body.length (bytesAV s.body) .ro, .bool s.told, .bool s.waits, .bool s.shut]) := h.cells
  have hcl : ∀ l, Ctr (env n0 w0 gl) 19 [.ref a 0] (H ++ l) True (.bool s.shut) (H ++ l) := fun l => .of fun _ => closed_e (h.app l) hr
  have hF := atF hA
  have htn := hm.tol
  have hto := hm.to
  have ha := h.ne.2.2.1
  haveI := AtF.of hA
  unfold pendV
  have hh := And.intro hA (And.intro q1 (And.intro q2 hF))
  refine enter (md := fun _ => 0) Tryz.func14 (fun hfit hgl => ?_)
  repeat' (first | refine gos ?_ | (refine br (fun hc => ?_) (fun hc => ?_) <;> try (exfalso; omega)) | fail)
  refine wseq_normal ?_
  repeat' (first | refine gos ?_ | (refine br (fun hc => ?_) (fun hc => ?_) <;> try (exfalso; omega)) | fail)
  refine wseq_normal ?_
  repeat' (first | refine gos ?_ | (refine br (fun hc => ?_) (fun hc => ?_) <;> try (exfalso; omega)) | fail)
  refine wseq_normal ?_
  repeat (refine w_seq ?_)
  refine w_drawnP (fun X => X[a]? = some (.cells [.str s.host, .int .i64 s.rc, .int .i64 s.sz, .sl s.kept.length (bytesAV s.kept) (.at jk ek), .int .i64 s.state, .str s.fro, .sl s.to.length (s.to.map .str) (.at jt et), .sl s.body.length (bytesAV s.body) .ro, .bool s.told, .bool s.waits, .bool s.shut])) (by intro _ h; cases h) (by simp only [List.length_cons, List.length_nil, Nat.reduceAdd]; exact rfl) ?_
  refine goP ?_
  repeat' (first | refine go ?_ | (refine br (fun hc => ?_) (fun hc => ?_) <;> try (exfalso; omega)) | fail)
  refine .weak (b := .tup [.agg [.str s.fro, .sl s.to.length (s.to.map .str) .ro, .int .i64 0], .sl s.body.length (bytesAV s.body) .ro, .bool true]) (fun g c h => tupW (by rfl) (fun i c h => ?_) h) (.junkd ⟨rfl, rfl⟩)
  match i, h with
  | 0, h => exact aggW (by rfl) (fun i c h => by
      match i, h with
      | 0, h => exact h
      | 1, h => exact sl_ro g c h
      | 2, h => exact h
      | i + 3, h => exact h) h
  | 1, h => exact sl_ro g c h
  | 2, h => exact h
  | i + 3, h => exact h

noncomputable def hostN (h : List UInt8) : List UInt8 := if tf (DomainOk h) = true then h else [108, 111, 99, 97, 108, 104, 111, 115, 116]
def clampN (M x : Int) : Int := if M < (if x < 1 then 1 else x) then M else (if x < 1 then 1 else x)
theorem clamp_in {M x : Int} (h : 1 ≤ M) : 1 ≤ clampN M x ∧ clampN M x ≤ M := by
  unfold clampN; split <;> split <;> omega
/-- Two places behind an object, named in it. -/
theorem HS.new {c0 : AO} {h f : List UInt8} {rc sz st : Int} {td w sh : Bool} : HS (env n0 w0 gl) (H ++ [c0, .cells [.str h, .int .i64 rc, .int .i64 sz, .sl 0 [] .full, .int .i64 st, .str f, .sl 0 [] .full, .sl 0 [] .full, .bool td, .bool w, .bool sh]]) (H ++ [.dead, .cells [.str h, .int .i64 rc, .int .i64 sz, .sl 0 [] (.at (H.length + 2) 1), .int .i64 st, .str f, .sl 0 [] (.at (H.length + 3) 1), .sl 0 [] .ro, .bool td, .bool w, .bool sh], .tail 1 1, .tail 1 1]) := by
  refine (HS.kill H.length).trans ?_
  rw [show (H ++ [c0, .cells [.str h, .int .i64 rc, .int .i64 sz, .sl 0 [] .full, .int .i64 st, .str f, .sl 0 [] .full, .sl 0 [] .full, .bool td, .bool w, .bool sh]]).set H.length .dead = H ++ [.dead, .cells [.str h, .int .i64 rc, .int .i64 sz, .sl 0 [] .full, .int .i64 st, .str f, .sl 0 [] .full, .sl 0 [] .full, .bool td, .bool w, .bool sh]] by simp [setE, setE0]]
  refine (HS.tail 1).trans ?_
  refine (HS.tail 1).trans ?_
  simp only [List.append_assoc, List.cons_append, List.nil_append]
  refine (HS.retail (H.length + 1) 3 (H.length + 2) (sz := 1) (e := 0) (n := 0) (ys := []) (by simp [getE, getE0]; rfl) rfl (by simp) (by simp [getE, getE0]) rfl).trans ?_
  simp only [setE, setE0, List.set_cons_succ, List.set_cons_zero, Nat.zero_add]
  refine (HS.retail (H.length + 1) 6 (H.length + 3) (sz := 1) (e := 0) (n := 0) (ys := []) (by simp [getE, getE0]; rfl) rfl (by simp) (by simp [getE, getE0]) rfl).trans ?_
  simp only [setE, setE0, List.set_cons_succ, List.set_cons_zero, Nat.zero_add]
  refine (HS.cells (H.length + 1) (xs := [.str h, .int .i64 rc, .int .i64 sz, .sl 0 [] (.at (H.length + 2) 1), .int .i64 st, .str f, .sl 0 [] (.at (H.length + 3) 1), .sl 0 [] .full, .bool td, .bool w, .bool sh]) (ys := [.str h, .int .i64 rc, .int .i64 sz, .sl 0 [] (.at (H.length + 2) 1), .int .i64 st, .str f, .sl 0 [] (.at (H.length + 3) 1), .sl 0 [] .ro, .bool td, .bool w, .bool sh]) (by simp [getE, getE0]) rfl (fun g k c hc => ?_)).trans (HS.eq (by simp [setE, setE0]))
  match k, hc with
  | 0, hc => exact hc
  | 1, hc => exact hc
  | 2, hc => exact hc
  | 3, hc => exact hc
  | 4, hc => exact hc
  | 5, hc => exact hc
  | 6, hc => exact hc
  | 7, hc => exact sl_ro g c hc
  | 8, hc => exact hc
  | 9, hc => exact hc
  | 10, hc => exact hc
  | k + 11, hc => exact hc
theorem new_e (host : List UInt8) (rc sz : Int) (hh0 : host.length ≤ 9223372036854775807) : AEnter (env n0 w0 gl) 10 [.agg [.str host, .int .i64 rc, .int .i64 sz]] H (fun y H' => y = .ret (.ref (H.length + 1) 0) ∧ H' = H ++ [.dead, .cells (sesAV (newS (hostN host) (clampN 100 rc) (clampN 500000 sz)) (H.length + 2) 1 (H.length + 3) 1), .tail 1 1, .tail 1 1]) := by
  have raw : AEnter (env n0 w0 gl) 10 [.agg [.str host, .int .i64 rc, .int .i64 sz]] H (fun y H' => y = .ret (.ref (H.length + 1) 0) ∧ ∃ c0, H' = H ++ [c0, .cells [.str (hostN host), .int .i64 (clampN 100 rc), .int .i64 (clampN 500000 sz), .sl 0 [] .full, .int .i64 0, .str [], .sl 0 [] .full, .sl 0 [] .full, .bool false, .bool false, .bool false]]) := by
    unfold hostN
    by_cases q : DomainOk host
    · have q2 := tf_true q
      rw [if_pos q2]
      have hh := q2
      refine enter (md := fun _ => 0) Tryz.func10 (fun hfit hgl => ?_)
      repeat' (first | refine go ?_ | (refine br (fun hc => ?_) (fun hc => ?_) <;> try (exfalso; omega)) | fail)
      exact .now ⟨rfl, _, rfl⟩
    · have q2 := tf_false q
      rw [if_neg (by rw [q2]; simp)]
      have hh := q2
      refine enter (md := fun _ => 0) Tryz.func10 (fun hfit hgl => ?_)
      repeat' (first | refine go ?_ | (refine br (fun hc => ?_) (fun hc => ?_) <;> try (exfalso; omega)) | fail)
      exact .now ⟨rfl, _, rfl⟩
  refine raw.hs ?_
  rintro x H1 ⟨rfl, c0, rfl⟩
  exact ⟨_, HS.new, rfl, rfl⟩

end Go.Ab.Tryz

end

/- Walks: a session: the lines that are kept. -/
import Derived.Test.YtocoejhiphcehaaGreatDoorLSrvB
import Derived.Test.YtocoejhiphcehaaGreatDoorLDotA
import Derived.Test.YtocoejhiphcehaaGreatDoorLOver
import Derived.Test.YtocoejhiphcehaaGreatDoorSSrvA
import Derived.Lib.ItoaLen
section
set_option linter.unusedSimpArgs false
set_option linter.unusedVariables false
set_option maxHeartbeats 8000000
set_option maxRecDepth 10000
namespace Go.Ab
open Go
variable {E : Env} {N : Nat} {rd : Option Nat} {md : Nat → Nat} {Q : APost} {ts ts2 : List AV} {ds : List ADef} {H : List AO}
/-- Between two pieces: a slice's room forgotten, and what lies behind let go. -/
theorem cutRo {y : Code} (t : Nat) (ks : List Nat) {n : Nat} {xs : List AV} {tok : Tok} {l : List AO} (h0 : ts.getD t .top = .sl n xs tok) (h : W E N rd md y Q ⟨ts2, ds⟩ H) (hts : ks.foldl (fun ts k => ts.set k .top) (ts.set t (.sl n xs .ro)) = ts2 := by (simp only [List.foldl_cons, List.foldl_nil, List.set_cons_succ, List.set_cons_zero]; exact rfl)) (hs : Shift E N (ts.set t (.sl n xs .ro)) ds (H ++ l) ts2 H := by (simp only [List.set_cons_succ, List.set_cons_zero]; exact Shift.auto)) : WSeq E N rd md y Q .normal ⟨ts, ds⟩ (H ++ l) := wseq_shift ((Shift.ro t h0).trans hs) h
end Go.Ab
namespace Go.Ab.Tryz
open Go Go.Ab Go.Proofs
attribute [local irreducible] W Wl Wop TrA WSeq WLoopS FPost DPost RPost WRound DK onEnd
attribute [local simp] belowL_bytesAV belowL_strsM
variable {n0 : Nat} {w0 : World} {gl : Nat → List AV} {H : List AO}

/-- A session, and how often its rooms were named anew. -/
structure SesT where
  s : Ses
  ek : Nat
  et : Nat
/-- What is kept once a line is taken. -/
noncomputable def nxS (s : Ses) : List UInt8 := if s.shut = true ∨ s.waits = true ∨ s.state = 4 then s.kept else match crlfAt s.kept with
  | none => s.kept
  | some p => p.2
noncomputable def SesT.wk (t : SesT) (c : List UInt8) : SesT := { t with s := { t.s with kept := if c = nxS t.s then c else t.s.kept } }
noncomputable def lnT (t : SesT) (x : List UInt8) : SesT := ⟨(cmdA { t.s with kept := nxS t.s } x).2, t.ek, etL { t.s with kept := nxS t.s } x t.et⟩
noncomputable def lnStep (j : List UInt8 × SesT) (x : List UInt8) : Res (List UInt8 × SesT) Empty Empty := .go (j.1 ++ (cmdA { j.2.s with kept := nxS j.2.s } x).1, lnT j.2 x)
/-- The lines that are taken. -/
noncomputable def linesL (s : Ses) : List (List UInt8) :=
  if s.shut = true ∨ s.waits = true ∨ s.state = 4 then [] else
  match h : crlfAt s.kept with
  | none => []
  | some (x, y) => x :: linesL (cmdA { s with kept := y } x).2
termination_by s.kept.length
decreasing_by
  have h1 := crlfAt_len h
  have h2 := (cmdA_keeps { s with kept := y } x).1
  rw [h2]; simp only; omega
theorem linesL_stop {s : Ses} (h : s.shut = true ∨ s.waits = true ∨ s.state = 4) : linesL s = [] := by rw [linesL, if_pos h]
theorem linesL_none {s : Ses} (h : crlfAt s.kept = none) : linesL s = [] := by
  rw [linesL]
  split
  · rfl
  · split
    · rfl
    · rename_i x y h2; rw [h] at h2; simp at h2
theorem linesL_some {s : Ses} {x y : List UInt8} (h0 : ¬ (s.shut = true ∨ s.waits = true ∨ s.state = 4)) (h : crlfAt s.kept = some (x, y)) : linesL s = x :: linesL (cmdA { s with kept := y } x).2 := by
  conv => lhs; rw [linesL]
  rw [if_neg h0]
  split
  · rename_i h2; rw [h] at h2; simp at h2
  · rename_i x' y' h2
    rw [h] at h2
    simp only [Option.some.injEq, Prod.mk.injEq] at h2
    rw [h2.1, h2.2]
theorem wk_any {t : SesT} {c : List UInt8} (h : c = nxS t.s → c = t.s.kept) : t.wk c = t := by
  obtain ⟨s, ek, et⟩ := t
  unfold SesT.wk
  simp only at h ⊢
  by_cases e : c = nxS s
  · rw [if_pos e, h e]
  · rw [if_neg e]
theorem nx_some {s : Ses} {x y : List UInt8} (h0 : ¬ (s.shut = true ∨ s.waits = true ∨ s.state = 4)) (h : crlfAt s.kept = some (x, y)) : nxS s = y := by
  unfold nxS; rw [if_neg h0, h]
theorem nx_nil {s : Ses} (h : linesL s = []) : nxS s = s.kept := by
  unfold nxS
  by_cases h0 : s.shut = true ∨ s.waits = true ∨ s.state = 4
  · rw [if_pos h0]
  · rw [if_neg h0]
    cases hc : crlfAt s.kept with
    | none => rfl
    | some p => obtain ⟨x, y⟩ := p; rw [linesL_some h0 hc] at h; simp at h
theorem lnT_kept (t : SesT) (x : List UInt8) : (lnT t x).s.kept = nxS t.s := (cmdA_keeps _ x).1

theorem slines1_t [hml : GLInt gl 0] {S : Empty → List UInt8 → List AO} {T : Empty → List UInt8 → List AO} {ch : Empty → List APanic} {lp id a jk jt n : Nat} {G : List UInt8 × SesT → List UInt8 → List AO} (j0 : List UInt8 × SesT) (c0 : List UInt8) (hlp : lp < n) (hc0 : j0.2.s.kept.length ≤ 1000000) (hw0 : j0.2.wk c0 = j0.2)
    (hg : ∀ j c k, SesAt (G j c ++ k) a jk jt (j.2.wk c).s j.2.ek j.2.et) (hid : ∀ j c k, (G j c ++ k)[id]? = some (.cells [.ref a 0])) (hset : ∀ j c c' k, (G j c ++ k).set a (.cells (sesAV (j.2.wk c').s jk j.2.ek jt j.2.et)) = G j c' ++ k)
    (hG : ∀ j c, (G j c).length = n) (hfG : ∀ j c, Fit n (G j c))
    (h : RoundsD (env n0 w0 gl) lp (fun x => [.sl x.length (bytesAV x) .ro]) G S T ch lnStep (fun j c => c = nxS j.2.s) j0 (linesL j0.2.s)) :
    AEnter (env n0 w0 gl) 47 [.yield lp, .ref id 0] (G j0 c0) (IterEnd G S T ch (foldR lnStep j0 (linesL j0.2.s))) := by
  have hid' : ∀ j c, (G j c)[id]? = some (.cells [.ref a 0]) := fun j c => by have := hid j c []; rwa [List.append_nil] at this
  refine enter (md := fun t => if t = 30 then 2 else 0) Tryz.func47 (fun hfit hgl => ?_)
  repeat' (first | refine go ?_ | (refine br (fun hc => ?_) (fun hc => ?_) <;> try (exfalso; omega)) | fail)
  refine loop (fun i : (List UInt8 × SesT) × List (List UInt8) × List UInt8 => (.yield lp :: .ref id 0 :: .top :: .top :: .top :: .top :: .top :: .top :: .top :: .top :: .top :: .top :: .top :: .top :: .top :: .top :: .top :: .top :: .top :: .top :: .top :: .top :: .top :: .top :: .top :: .top :: .top :: .top :: .top :: .top :: .top :: .top :: .top :: .top :: .top :: .top :: .top :: .top :: .top :: .top :: .top :: .top :: .top :: .top :: .top :: .top :: .top :: .top :: [])) (fun i => G i.1 i.2.2) (fun i => linesL j0.2.s = i.2.1 ++ linesL i.1.2.s ∧ foldR lnStep j0 i.2.1 = .go i.1 ∧ i.1.2.s.kept.length ≤ j0.2.s.kept.length ∧ i.1.2.wk i.2.2 = i.1.2) (fun i => i.1.2.s.kept.length) (j0, [], c0) ⟨rfl, rfl, Nat.le_refl _, hw0⟩ ?_
  rintro ⟨j, pre, c⟩ ⟨h1, h2, h3, h4⟩
  simp only at h1 h2 h3 h4 ⊢
  have hn := hG j c
  have hn0 := hG j0 c0
  have hi1 := (List.getElem?_eq_some_iff.1 (hid' j0 c0)).1
  have hfg : Fit (G j c).length (G j c) := by rw [hn]; exact hfG j c
  have hA : ∀ k, (G j c ++ k)[a]? = some (.cells [.str j.2.s.host, .int .i64 j.2.s.rc, .int .i64 j.2.s.sz, .sl j.2.s.kept.length (bytesAV j.2.s.kept) (.at jk j.2.ek), .int .i64 j.2.s.state, .str j.2.s.fro, .sl j.2.s.to.length (j.2.s.to.map .str) (.at jt j.2.et), .sl j.2.s.body.length (bytesAV j.2.s.body) .ro, .bool j.2.s.told, .bool j.2.s.waits, .bool j.2.s.shut]) := fun k => by
    have := (hg j c k).cells
    rw [h4] at this; exact this
  have hA' : (G j c)[a]? = some (.cells [.str j.2.s.host, .int .i64 j.2.s.rc, .int .i64 j.2.s.sz, .sl j.2.s.kept.length (bytesAV j.2.s.kept) (.at jk j.2.ek), .int .i64 j.2.s.state, .str j.2.s.fro, .sl j.2.s.to.length (j.2.s.to.map .str) (.at jt j.2.et), .sl j.2.s.body.length (bytesAV j.2.s.body) .ro, .bool j.2.s.told, .bool j.2.s.waits, .bool j.2.s.shut]) := by have := hA []; rwa [List.append_nil] at this
  have ha := (List.getElem?_eq_some_iff.1 hA').1
  have hend : linesL j.2.s = [] → IterEnd G S T ch (foldR lnStep j0 (linesL j0.2.s)) (.ret (.tup [])) (G j c) := fun e => by
    rw [h1, e, List.append_nil, h2]
    exact ⟨c, rfl, rfl⟩
  by_cases q1 : j.2.s.shut = true
  · have e := hend (linesL_stop (.inl q1))
    have hh := And.intro q1 (And.intro hA' (And.intro (hid' j c) (hid j c)))
    repeat' (first | refine go ?_ | (refine br (fun hc => ?_) (fun hc => ?_) <;> try (exfalso; omega)) | fail)
    exact .now e
  by_cases q2 : j.2.s.waits = true
  · have e := hend (linesL_stop (.inr (.inl q2)))
    simp only [Bool.not_eq_true] at q1
    have hh := And.intro q1 (And.intro q2 (And.intro hA' (And.intro (hid' j c) (hid j c))))
    repeat' (first | refine go ?_ | (refine br (fun hc => ?_) (fun hc => ?_) <;> try (exfalso; omega)) | fail)
    exact .now e
  by_cases q3 : j.2.s.state = 4
  · have e := hend (linesL_stop (.inr (.inr q3)))
    simp only [Bool.not_eq_true] at q1 q2
    have hh := And.intro q1 (And.intro q2 (And.intro q3 (And.intro hA' (And.intro (hid' j c) (hid j c)))))
    repeat' (first | refine go ?_ | (refine br (fun hc => ?_) (fun hc => ?_) <;> try (exfalso; omega)) | fail)
    exact .now e
  have hq : ¬ (j.2.s.shut = true ∨ j.2.s.waits = true ∨ j.2.s.state = 4) := fun hh => hh.elim q1 (fun hh => hh.elim q2 q3)
  simp only [Bool.not_eq_true] at q1 q2
  have hcut : ∀ H, Ctr (env n0 w0 gl) 48 [.sl j.2.s.kept.length (bytesAV j.2.s.kept) (.at jk j.2.ek), .sl 2 [.int .u8 13, .int .u8 10] .ro] H True (cutT j.2.s.kept (.at jk j.2.ek)) H := fun H => .of fun _ => cutT_e j.2.s.kept _ (by omega)
  have hjk : jk < n := by have := (hg j c []).ne.2.2.2.1; rw [List.append_nil, hn] at this; exact this
  rcases hc : crlfAt j.2.s.kept with _ | ⟨x, y⟩
  · have e := hend (linesL_none hc)
    have hv : cutT j.2.s.kept (.at jk j.2.ek) = .tup [.sl j.2.s.kept.length (bytesAV j.2.s.kept) (.at jk j.2.ek), .sl 0 [] .full, .bool false] := by simp only [cutT, hc]
    have hh := And.intro hv (And.intro q1 (And.intro q2 (And.intro q3 (And.intro hA' (And.intro hA (And.intro (hid' j c) (hid j c)))))))
    repeat' (first | refine gos ?_ | (refine br (fun hc => ?_) (fun hc => ?_) <;> try (exfalso; omega)) | fail)
    refine wseq_normal ?_
    repeat' (first | refine gos ?_ | (refine br (fun hc => ?_) (fun hc => ?_) <;> try (exfalso; omega)) | fail)
    refine wseq_normal ?_
    repeat' (first | refine gos ?_ | (refine br (fun hc => ?_) (fun hc => ?_) <;> try (exfalso; omega)) | fail)
    refine cutTo [30] ?_
    repeat' (first | refine go ?_ | (refine br (fun hc => ?_) (fun hc => ?_) <;> try (exfalso; omega)) | fail)
    exact .now e
  · have hl := crlfAt_len hc
    have hv : cutT j.2.s.kept (.at jk j.2.ek) = .tup [.sl x.length (bytesAV x) .ro, .sl y.length (bytesAV y) (.at jk j.2.ek), .bool true] := by simp only [cutT, hc]
    have hh := And.intro hv (And.intro q1 (And.intro q2 (And.intro q3 (And.intro hA' (And.intro hA (And.intro (hid' j c) (hid j c)))))))
    have hnx := nx_some hq hc
    have hls : linesL j.2.s = x :: linesL (lnT j.2 x).s := by
      rw [linesL_some hq hc]; unfold lnT; rw [hnx]
    rw [hls] at h1
    repeat' (first | refine gos ?_ | (refine br (fun hc => ?_) (fun hc => ?_) <;> try (exfalso; omega)) | fail)
    refine wseq_normal ?_
    repeat' (first | refine gos ?_ | (refine br (fun hc => ?_) (fun hc => ?_) <;> try (exfalso; omega)) | fail)
    refine wseq_normal ?_
    repeat' (first | refine gos ?_ | (refine br (fun hc => ?_) (fun hc => ?_) <;> try (exfalso; omega)) | fail)
    refine cutTo [30] ?_
    repeat' (first | refine gos ?_ | (refine br (fun hc => ?_) (fun hc => ?_) <;> try (exfalso; omega)) | fail)
    refine wseq_normal ?_
    repeat' (first | refine gos ?_ | (refine br (fun hc => ?_) (fun hc => ?_) <;> try (exfalso; omega)) | fail)
    refine wseq_normal ?_
    repeat' (first | refine gos ?_ | (refine br (fun hc => ?_) (fun hc => ?_) <;> try (exfalso; omega)) | fail)
    refine cutRo 3 [39] rfl ?_
    have hy := h.go0 y h1 h2 hnx.symm rfl
    have hw : (G j c).set a (.cells [.str j.2.s.host, .int .i64 j.2.s.rc, .int .i64 j.2.s.sz, .sl y.length (bytesAV y) (.at jk j.2.ek), .int .i64 j.2.s.state, .str j.2.s.fro, .sl j.2.s.to.length (j.2.s.to.map .str) (.at jt j.2.et), .sl j.2.s.body.length (bytesAV j.2.s.body) .ro, .bool j.2.s.told, .bool j.2.s.waits, .bool j.2.s.shut]) = G j y := by
      have := hset j c y []
      rw [List.append_nil, List.append_nil] at this
      rw [← this]
      unfold SesT.wk
      simp only [hnx, if_true]
      rfl
    rw [q1, q2] at hw
    repeat' (first | refine gos ?_ | (refine br (fun hc => ?_) (fun hc => ?_) <;> try (exfalso; omega)) | fail)
    refine wseq_normal ?_
    repeat' (first | refine gos ?_ | (refine br (fun hc => ?_) (fun hc => ?_) <;> try (exfalso; omega)) | fail)
    rw [hw]
    repeat' (first | refine go ?_ | (refine br (fun hc => ?_) (fun hc => ?_) <;> try (exfalso; omega)) | fail)
    have hkp := lnT_kept j.2 x
    rw [hnx] at hkp
    exact again ((j.1 ++ (cmdA { j.2.s with kept := nxS j.2.s } x).1, lnT j.2 x), pre ++ [x], y) ⟨by rw [h1]; simp, foldR_go h2 rfl, by simp only [hkp]; omega, wk_any fun _ => hkp.symm⟩ (by simp only [hkp]; omega)

end Go.Ab.Tryz

end

section
set_option linter.unusedSimpArgs false
set_option linter.unusedVariables false
set_option maxHeartbeats 4000000
set_option maxRecDepth 10000
namespace Go.Ab.Tryz
open Go Go.Ab Go.Proofs

theorem Ses.Lim.kept {s : Ses} (h : s.Lim) (k : List UInt8) (b : Bool) : ({ s with kept := k, told := b } : Ses).Lim := ⟨h.host, h.sz, h.to, h.tol, h.rc⟩
theorem Ses.Lim.kept1 {s : Ses} (h : s.Lim) (k : List UInt8) : ({ s with kept := k } : Ses).Lim := ⟨h.host, h.sz, h.to, h.tol, h.rc⟩
theorem Ses.Lim.clear {s : Ses} (h : s.Lim) : s.clear.Lim := ⟨h.host, h.sz, fun x hx => by simp [Ses.clear] at hx, by simp [Ses.clear], h.rc⟩
theorem cmd_to (s : Ses) (x : List UInt8) : (cmdA s x).2.to = s.to ∨ (cmdA s x).2.to = [] ∨ ((cmdA s x).2.to = s.to ++ [(cmdP x).2.1] ∧ (s.to.length : Int) < s.rc) := by
  unfold cmdA rcptA
  refine ite_prop (P := fun r : List UInt8 × Ses => r.2.to = s.to ∨ r.2.to = [] ∨ (r.2.to = s.to ++ [(cmdP x).2.1] ∧ (s.to.length : Int) < s.rc)) (fun _ => .inl rfl) (fun _ => ?_)
  refine ite_prop (P := fun r : List UInt8 × Ses => r.2.to = s.to ∨ r.2.to = [] ∨ (r.2.to = s.to ++ [(cmdP x).2.1] ∧ (s.to.length : Int) < s.rc)) (fun _ => .inl rfl) (fun _ => ?_)
  refine ite_prop (P := fun r : List UInt8 × Ses => r.2.to = s.to ∨ r.2.to = [] ∨ (r.2.to = s.to ++ [(cmdP x).2.1] ∧ (s.to.length : Int) < s.rc)) (fun _ => .inr (.inl rfl)) (fun _ => ?_)
  refine ite_prop (P := fun r : List UInt8 × Ses => r.2.to = s.to ∨ r.2.to = [] ∨ (r.2.to = s.to ++ [(cmdP x).2.1] ∧ (s.to.length : Int) < s.rc)) (fun _ => .inr (.inl rfl)) (fun _ => ?_)
  refine ite_prop (P := fun r : List UInt8 × Ses => r.2.to = s.to ∨ r.2.to = [] ∨ (r.2.to = s.to ++ [(cmdP x).2.1] ∧ (s.to.length : Int) < s.rc)) (fun _ => ?_) (fun _ => ?_)
  · refine ite_prop (P := fun r : List UInt8 × Ses => r.2.to = s.to ∨ r.2.to = [] ∨ (r.2.to = s.to ++ [(cmdP x).2.1] ∧ (s.to.length : Int) < s.rc)) (fun _ => .inl rfl) (fun _ => ?_)
    exact ite_prop (P := fun r : List UInt8 × Ses => r.2.to = s.to ∨ r.2.to = [] ∨ (r.2.to = s.to ++ [(cmdP x).2.1] ∧ (s.to.length : Int) < s.rc)) (fun _ => .inl rfl) (fun _ => .inl rfl)
  refine ite_prop (P := fun r : List UInt8 × Ses => r.2.to = s.to ∨ r.2.to = [] ∨ (r.2.to = s.to ++ [(cmdP x).2.1] ∧ (s.to.length : Int) < s.rc)) (fun _ => ?_) (fun _ => ?_)
  · refine ite_prop (P := fun r : List UInt8 × Ses => r.2.to = s.to ∨ r.2.to = [] ∨ (r.2.to = s.to ++ [(cmdP x).2.1] ∧ (s.to.length : Int) < s.rc)) (fun _ => .inl rfl) (fun _ => ?_)
    refine ite_prop (P := fun r : List UInt8 × Ses => r.2.to = s.to ∨ r.2.to = [] ∨ (r.2.to = s.to ++ [(cmdP x).2.1] ∧ (s.to.length : Int) < s.rc)) (fun _ => .inl rfl) (fun _ => ?_)
    exact ite_prop (P := fun r : List UInt8 × Ses => r.2.to = s.to ∨ r.2.to = [] ∨ (r.2.to = s.to ++ [(cmdP x).2.1] ∧ (s.to.length : Int) < s.rc)) (fun _ => .inl rfl) (fun h => .inr (.inr ⟨rfl, by omega⟩))
  refine ite_prop (P := fun r : List UInt8 × Ses => r.2.to = s.to ∨ r.2.to = [] ∨ (r.2.to = s.to ++ [(cmdP x).2.1] ∧ (s.to.length : Int) < s.rc)) (fun _ => ?_) (fun _ => ?_)
  · exact ite_prop (P := fun r : List UInt8 × Ses => r.2.to = s.to ∨ r.2.to = [] ∨ (r.2.to = s.to ++ [(cmdP x).2.1] ∧ (s.to.length : Int) < s.rc)) (fun _ => .inl rfl) (fun _ => .inl rfl)
  refine ite_prop (P := fun r : List UInt8 × Ses => r.2.to = s.to ∨ r.2.to = [] ∨ (r.2.to = s.to ++ [(cmdP x).2.1] ∧ (s.to.length : Int) < s.rc)) (fun _ => .inl rfl) (fun _ => ?_)
  refine ite_prop (P := fun r : List UInt8 × Ses => r.2.to = s.to ∨ r.2.to = [] ∨ (r.2.to = s.to ++ [(cmdP x).2.1] ∧ (s.to.length : Int) < s.rc)) (fun _ => .inl rfl) (fun _ => ?_)
  refine ite_prop (P := fun r : List UInt8 × Ses => r.2.to = s.to ∨ r.2.to = [] ∨ (r.2.to = s.to ++ [(cmdP x).2.1] ∧ (s.to.length : Int) < s.rc)) (fun _ => ?_) (fun _ => .inl rfl)
  exact ite_prop (P := fun r : Ses => r.to = s.to ∨ r.to = [] ∨ (r.to = s.to ++ [(cmdP x).2.1] ∧ (s.to.length : Int) < s.rc)) (fun _ => .inr (.inl rfl)) (fun _ => .inl rfl)
theorem cmd_out {s : Ses} (h : s.Lim) (x : List UInt8) : (cmdA s x).1.length ≤ 1100 := by
  have h1 := h.host
  have h2 : (Lib.itoa s.sz).length ≤ 30 := by
    have := h.sz
    have := Lib.itoa_length_le s.sz (by omega) (by omega)
    omega
  unfold cmdA rcptA
  refine ite_prop (P := fun r : List UInt8 × Ses => r.1.length ≤ 1100) (fun _ => by simp) (fun _ => ?_)
  refine ite_prop (P := fun r : List UInt8 × Ses => r.1.length ≤ 1100) (fun _ => by simp) (fun _ => ?_)
  refine ite_prop (P := fun r : List UInt8 × Ses => r.1.length ≤ 1100) (fun _ => by simp only [List.length_append, List.length_cons, List.length_nil]; omega) (fun _ => ?_)
  refine ite_prop (P := fun r : List UInt8 × Ses => r.1.length ≤ 1100) (fun _ => by simp only [List.length_append, List.length_cons, List.length_nil]; omega) (fun _ => ?_)
  refine ite_prop (P := fun r : List UInt8 × Ses => r.1.length ≤ 1100) (fun _ => ?_) (fun _ => ?_)
  · refine ite_prop (P := fun r : List UInt8 × Ses => r.1.length ≤ 1100) (fun _ => by simp) (fun _ => ?_)
    exact ite_prop (P := fun r : List UInt8 × Ses => r.1.length ≤ 1100) (fun _ => by simp) (fun _ => by simp)
  refine ite_prop (P := fun r : List UInt8 × Ses => r.1.length ≤ 1100) (fun _ => ?_) (fun _ => ?_)
  · refine ite_prop (P := fun r : List UInt8 × Ses => r.1.length ≤ 1100) (fun _ => by simp) (fun _ => ?_)
    refine ite_prop (P := fun r : List UInt8 × Ses => r.1.length ≤ 1100) (fun _ => by simp) (fun _ => ?_)
    exact ite_prop (P := fun r : List UInt8 × Ses => r.1.length ≤ 1100) (fun _ => by simp) (fun _ => by simp)
  refine ite_prop (P := fun r : List UInt8 × Ses => r.1.length ≤ 1100) (fun _ => ?_) (fun _ => ?_)
  · exact ite_prop (P := fun r : List UInt8 × Ses => r.1.length ≤ 1100) (fun _ => by simp) (fun _ => by simp)
  refine ite_prop (P := fun r : List UInt8 × Ses => r.1.length ≤ 1100) (fun _ => by simp) (fun _ => ?_)
  refine ite_prop (P := fun r : List UInt8 × Ses => r.1.length ≤ 1100) (fun _ => by simp) (fun _ => ?_)
  exact ite_prop (P := fun r : List UInt8 × Ses => r.1.length ≤ 1100) (fun _ => by simp) (fun _ => by simp)
theorem lim_cmd {s : Ses} (h : s.Lim) {x : List UInt8} (hx : x.length ≤ 1000000) : (cmdA s x).2.Lim := by
  have hk := cmdA_keeps s x
  have hl := cmdP_len x
  refine ⟨by rw [hk.2.2.1]; exact h.host, by rw [hk.2.2.2.1]; exact h.sz, ?_, ?_, by rw [hk.2.2.2.2]; exact h.rc⟩
  · rcases cmd_to s x with e | e | ⟨e, _⟩
    · rw [e]; exact h.to
    · rw [e]; intro y hy; simp at hy
    · rw [e]
      intro y hy
      rcases List.mem_append.1 hy with h1 | h1
      · exact h.to y h1
      · rw [List.mem_singleton.1 h1]; omega
  · rcases cmd_to s x with e | e | ⟨e, e2⟩
    · rw [e]; exact h.tol
    · rw [e]; simp
    · rw [e, List.length_append, List.length_singleton]
      have := h.rc.2
      omega
/-- One step, the rooms' names with it. -/
noncomputable def stepT (t : SesT) : Option (List UInt8 × SesT) :=
  if t.s.shut = true ∨ t.s.waits = true then none
  else if t.s.state = 4 then
    match scanS t.s.kept with
    | none => none
    | some (o, r) => if (o.length : Int) ≤ t.s.sz then some ([], ⟨{ t.s with kept := r, body := o, waits := true }, t.ek + 1, t.et⟩) else some ([53, 53, 50, 32, 115, 105, 122, 101, 13, 10], ⟨({ t.s with kept := r } : Ses).clear, t.ek + 1, t.et + 1⟩)
  else match crlfAt t.s.kept with
    | none => none
    | some (x, y) => some ((cmdA { t.s with kept := y } x).1, ⟨(cmdA { t.s with kept := y } x).2, t.ek, etL { t.s with kept := y } x t.et⟩)
theorem stepT_s (t : SesT) : stepO t.s = (stepT t).map fun p => (p.1, p.2.s) := by
  unfold stepO stepT
  split
  · rfl
  · split
    · cases scanS t.s.kept with
      | none => rfl
      | some p =>
        obtain ⟨o, r⟩ := p
        simp only
        split <;> rfl
    · cases crlfAt t.s.kept with
      | none => rfl
      | some p => rfl
theorem stepT_none {t : SesT} (h : stepO t.s = none) : stepT t = none := by
  rw [stepT_s] at h
  cases hs : stepT t with
  | none => rfl
  | some p => rw [hs] at h; simp at h
noncomputable def runT : Nat → SesT → SesT
  | 0, t => t
  | n + 1, t => match stepT t with
    | none => t
    | some p => runT n p.2
noncomputable def onT (t : SesT) : SesT := runT (t.s.kept.length + 1) t
theorem stepT_len {t t' : SesT} {o : List UInt8} (h : stepT t = some (o, t')) : t'.s.kept.length < t.s.kept.length := by
  have h2 := stepT_s t
  rw [h] at h2
  exact (stepO_len h2).1
theorem runT_more : ∀ (n m : Nat) (t : SesT), t.s.kept.length < n → t.s.kept.length < m → runT n t = runT m t
  | 0, m, t, h, _ => by omega
  | n + 1, 0, t, _, h => by omega
  | n + 1, m + 1, t, h1, h2 => by
    simp only [runT]
    cases hs : stepT t with
    | none => rfl
    | some p =>
      obtain ⟨o, t'⟩ := p
      have := stepT_len hs
      exact runT_more n m t' (by omega) (by omega)
theorem onT_none {t : SesT} (h : stepT t = none) : onT t = t := by
  unfold onT; rw [runT, h]
theorem onT_some {t t' : SesT} {o : List UInt8} (h : stepT t = some (o, t')) : onT t = onT t' := by
  have := stepT_len h
  unfold onT
  rw [runT, h]
  exact runT_more _ _ t' (by omega) (by omega)
theorem onT_s (t : SesT) : (onT t).s = (onS t.s).2 := by
  induction hn : t.s.kept.length using Nat.strongRecOn generalizing t with
  | _ n ih =>
    have h2 := stepT_s t
    cases h : stepT t with
    | none => rw [h] at h2; rw [onT_none h, onS_none h2]
    | some p =>
      obtain ⟨o, t'⟩ := p
      rw [h] at h2
      have := stepT_len h
      rw [onT_some h, onS_some h2, ih t'.s.kept.length (by omega) t' rfl]
/-- What the lines taken come to. -/
theorem ln_go : ∀ (pre : List (List UInt8)) (j0 j : List UInt8 × SesT) (post : List (List UInt8)), linesL j0.2.s = pre ++ post → foldR lnStep j0 pre = .go j → j0.2.s.Lim → j0.2.s.kept.length ≤ 1000000 → linesL j.2.s = post ∧ j.2.s.Lim ∧ j.2.s.kept.length ≤ j0.2.s.kept.length ∧ j.1.length + 600 * j.2.s.kept.length ≤ j0.1.length + 600 * j0.2.s.kept.length ∧ onT j0.2 = onT j.2 ∧ ∃ L, j.1 = j0.1 ++ L ∧ onS j0.2.s = (L ++ (onS j.2.s).1, (onS j.2.s).2)
  | [], j0, j, post, h, hj, hm, hk => by
    simp only [foldR] at hj
    injection hj with hj
    subst hj
    exact ⟨h, hm, Nat.le_refl _, Nat.le_refl _, rfl, [], by simp, by simp⟩
  | x :: pre, j0, j, post, h, hj, hm, hk => by
    by_cases h0 : j0.2.s.shut = true ∨ j0.2.s.waits = true ∨ j0.2.s.state = 4
    · rw [linesL_stop h0] at h; simp at h
    cases hc : crlfAt j0.2.s.kept with
    | none => rw [linesL_none hc] at h; simp at h
    | some p =>
      obtain ⟨x', y⟩ := p
      have hl := crlfAt_len hc
      rw [linesL_some h0 hc] at h
      simp only [List.cons_append, List.cons.injEq] at h
      obtain ⟨rfl, h⟩ := h
      have hnx := nx_some h0 hc
      have hst : stepO j0.2.s = some (cmdA { j0.2.s with kept := nxS j0.2.s } x') := by
        unfold stepO
        rw [if_neg (fun e => h0 (e.elim .inl (fun e => .inr (.inl e)))), if_neg (fun e => h0 (.inr (.inr e))), hc, hnx]
      have hstT : stepT j0.2 = some ((cmdA { j0.2.s with kept := nxS j0.2.s } x').1, lnT j0.2 x') := by
        unfold stepT
        rw [if_neg (fun e => h0 (e.elim .inl (fun e => .inr (.inl e)))), if_neg (fun e => h0 (.inr (.inr e))), hc]
        unfold lnT; rw [hnx]
      simp only [foldR, lnStep] at hj
      have hkp := lnT_kept j0.2 x'
      rw [hnx] at hkp
      have hm1 : (lnT j0.2 x').s.Lim := lim_cmd (hm.kept1 _) (by omega)
      have hco := cmd_out (hm.kept1 (nxS j0.2.s)) x'
      obtain ⟨r1, r2, r3, r4, r7, L, r5, r6⟩ := ln_go pre _ j post (by simp only [lnT]; rw [hnx]; exact h) hj hm1 (by simp only [hkp]; omega)
      simp only [hkp, List.length_append] at r3 r4
      refine ⟨r1, r2, by omega, by omega, (onT_some hstT).trans r7, (cmdA { j0.2.s with kept := nxS j0.2.s } x').1 ++ L, by rw [r5, List.append_assoc], ?_⟩
      rw [onS_some (s := j0.2.s) (o := (cmdA { j0.2.s with kept := nxS j0.2.s } x').1) (s' := (cmdA { j0.2.s with kept := nxS j0.2.s } x').2) hst]
      have r6' : onS (cmdA { j0.2.s with kept := nxS j0.2.s } x').2 = (L ++ (onS j.2.s).1, (onS j.2.s).2) := r6
      rw [r6']
      simp only [List.append_assoc]

theorem lim_step {s s' : Ses} {o : List UInt8} (h : s.Lim) (hk : s.kept.length ≤ 1000000) (hs : stepO s = some (o, s')) : s'.Lim ∧ o.length ≤ 1100 := by
  unfold stepO at hs
  split at hs
  · simp at hs
  · split at hs
    · split at hs
      · simp at hs
      · rename_i o2 r hsc
        split at hs
        · simp only [Option.some.injEq, Prod.mk.injEq] at hs
          obtain ⟨rfl, rfl⟩ := hs
          exact ⟨⟨h.host, h.sz, h.to, h.tol, h.rc⟩, by simp⟩
        · simp only [Option.some.injEq, Prod.mk.injEq] at hs
          obtain ⟨rfl, rfl⟩ := hs
          exact ⟨(h.kept1 r).clear, by simp⟩
    · split at hs
      · simp at hs
      · rename_i x y hc
        have hl := crlfAt_len hc
        simp only [Option.some.injEq] at hs
        have h1 := lim_cmd (h.kept1 y) (x := x) (by omega)
        have h2 := cmd_out (h.kept1 y) x
        rw [hs] at h1 h2
        exact ⟨h1, h2⟩
theorem on_out (s : Ses) (h : s.Lim) (hk : s.kept.length ≤ 1000000) : (onS s).1.length ≤ 1100 * s.kept.length := by
  induction hn : s.kept.length using Nat.strongRecOn generalizing s with
  | _ n ih =>
    cases hs : stepO s with
    | none => rw [onS_none hs]; simp
    | some p =>
      obtain ⟨o, s'⟩ := p
      have h1 := stepO_len hs
      have h2 := lim_step h hk hs
      have h3 := ih s'.kept.length (by omega) s' h2.1 (by omega) rfl
      rw [onS_some hs, List.length_append]
      omega

end Go.Ab.Tryz

end

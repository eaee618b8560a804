/- Walks: the document's session: in memory; what leaves little changed. -/
import Derived.Test.YtocoejhiphcehaaGreatDoorLSrvC
import Derived.Test.YtocoejhiphcehaaGreatDoorLBnc6
import Derived.Test.YtocoejhiphcehaaGreatDoorLSrvD
section
set_option linter.unusedSimpArgs false
set_option linter.unusedVariables false
set_option maxHeartbeats 8000000
set_option maxRecDepth 10000
namespace Go.Ab
open Go Go.RowKit
variable {E : Env} {N : Nat} {ts : List AV} {ds : List ADef} {g : Ghost} {H : List AO} {w : World}
/-- A contract, what is behind seen otherwise, its end let go. -/
theorem AEnter.outs {f : FuncId} {args : List AV} {R R' : AE → List AO → Prop} (h : AEnter E f args H R) (k : Fit H.length H → ∀ x H1, R x H1 → ∃ H2, HS E H1 H2 ∧ Out H.length R' x H2) : AEnter E f args H R' := fun g w cs hr hv =>
  ⟨(h g w cs hr hv).1, CallsIn.mono (h g w cs hr hv).2 fun e w' hh => by
    obtain ⟨x, H1, g1, a, b, c, d⟩ := hh
    obtain ⟨H2, s1, s2⟩ := k hr.fit x H1 a
    obtain ⟨g2, t1, t2⟩ := s1 g1 w' c
    exact out_econc hr.dom (fun n hn i => glob_within hr n hn i) s2 (b.trans t1) t2 (by
      cases d with
      | ret h => exact .ret (h.mono t1)
      | panic h => exact .panic (PRels.mono t1 h))⟩
end Go.Ab
namespace Go.Ab.Tryz
open Go Go.Ab Go.Proofs
attribute [local irreducible] W Wl Wop TrA WSeq WLoopS FPost DPost RPost WRound DK onEnd
attribute [local simp] belowL_bytesAV belowL_strsM belowL_linesAV
variable {n0 : Nat} {w0 : World} {gl : Nat → List AV} {H : List AO}

/-- The document's session as it lies in memory. -/
def refAV (s : Ses) : List AV := [.str s.host, .int .i64 s.rc, .int .i64 s.sz, .sl s.kept.length (bytesAV s.kept) .ro, .int .i64 s.state, .str s.fro, .sl s.to.length (s.to.map .str) .ro, .sl s.body.length (bytesAV s.body) .ro, .bool s.waits, .bool s.shut, .bool s.told]
def RefAt (H : List AO) (a : Nat) (s : Ses) : Prop := H[a]? = some (.cells (refAV s))
theorem RefAt.cells {a : Nat} {s : Ses} (h : RefAt H a s) : H[a]? = some (.cells [.str s.host, .int .i64 s.rc, .int .i64 s.sz, .sl s.kept.length (bytesAV s.kept) .ro, .int .i64 s.state, .str s.fro, .sl s.to.length (s.to.map .str) .ro, .sl s.body.length (bytesAV s.body) .ro, .bool s.waits, .bool s.shut, .bool s.told]) := h
theorem RefAt.lt {a : Nat} {s : Ses} (h : RefAt H a s) : a < H.length := (List.getElem?_eq_some_iff.1 h).1
def rput (H : List AO) (a : Nat) (s : Ses) : List AO := H.set a (.cells (refAV s))
theorem rput_len (H : List AO) (a : Nat) (s : Ses) : (rput H a s).length = H.length := by simp [rput]
theorem rput_at {a : Nat} {s : Ses} (h : RefAt H a s) (s' : Ses) : RefAt (rput H a s') a s' := by
  unfold RefAt rput; rw [List.getElem?_set_self h.lt]
theorem rput_put (a : Nat) (s1 s2 : Ses) : rput (rput H a s1) a s2 = rput H a s2 := by simp [rput]
theorem rput_same {a : Nat} {s : Ses} (h : RefAt H a s) : rput H a s = H := set_same h
theorem rput_app {a : Nat} {s : Ses} (h : RefAt H a s) (l : List AO) (s' : Ses) : rput (H ++ l) a s' = rput H a s' ++ l := setL h.lt
theorem RefAt.app {a : Nat} {s : Ses} (h : RefAt H a s) (l : List AO) : RefAt (H ++ l) a s := by unfold RefAt; rw [getL h.lt]; exact h
theorem ref_within (n : Nat) (s : Ses) : (AO.cells (refAV s)).within n = true := by
  simp [AO.within, refAV, belowL, AV.within]
theorem rput_fit {a : Nat} {s : Ses} (h : RefAt H a s) (hf : Fit H.length H) (s' : Ses) : Fit (rput H a s').length (rput H a s') := by
  rw [rput_len]; exact fit_set hf (ref_within _ s')
/-- Less is said of the rooms behind. -/
theorem HS.refAV {a n1 n2 n3 : Nat} {h f : List UInt8} {rc sz st : Int} {w sh td : Bool} {x1 x2 x3 : List AV} {t1 t2 t3 : Tok} (hA : H[a]? = some (.cells [.str h, .int .i64 rc, .int .i64 sz, .sl n1 x1 t1, .int .i64 st, .str f, .sl n2 x2 t2, .sl n3 x3 t3, .bool w, .bool sh, .bool td])) : HS (env n0 w0 gl) H (H.set a (.cells [.str h, .int .i64 rc, .int .i64 sz, .sl n1 x1 .ro, .int .i64 st, .str f, .sl n2 x2 .ro, .sl n3 x3 .ro, .bool w, .bool sh, .bool td])) := HS.cells a hA rfl (fun g k c hc => by
    match k, hc with
    | 0, hc => exact hc
    | 1, hc => exact hc
    | 2, hc => exact hc
    | 3, hc => exact sl_ro g c hc
    | 4, hc => exact hc
    | 5, hc => exact hc
    | 6, hc => exact sl_ro g c hc
    | 7, hc => exact sl_ro g c hc
    | 8, hc => exact hc
    | 9, hc => exact hc
    | 10, hc => exact hc
    | k + 11, hc => exact hc)
/-- A call that stores into the session: its rooms forgotten, what lies behind let go. -/
theorem AEnter.refs {a : Nat} {s : Ses} (h : RefAt H a s) {f : FuncId} {args : List AV} {v : AV} (s' : Ses) (hv : v.within H.length = true)
    (k : AEnter (env n0 w0 gl) f args H (fun y H' => ∃ t1 t2 t3 l, y = .ret v ∧ H' = H.set a (.cells [.str s'.host, .int .i64 s'.rc, .int .i64 s'.sz, .sl s'.kept.length (bytesAV s'.kept) t1, .int .i64 s'.state, .str s'.fro, .sl s'.to.length (s'.to.map .str) t2, .sl s'.body.length (bytesAV s'.body) t3, .bool s'.waits, .bool s'.shut, .bool s'.told]) ++ l)) :
    AEnter (env n0 w0 gl) f args H (fun y H' => y = .ret v ∧ H' = rput H a s') := by
  refine k.outs fun hfit x H1 hR => ?_
  obtain ⟨t1, t2, t3, l, rfl, rfl⟩ := hR
  refine ⟨rput H a s' ++ l, ?_, Out.dropS (by rw [rput_len]; exact Nat.le_refl _) (rput_fit h hfit s') (by rw [rput_len]; exact hv) ⟨rfl, rfl⟩⟩
  refine (HS.refAV (a := a) (by rw [getL (by simpa using h.lt), List.getElem?_set_self h.lt])).trans (HS.eq ?_)
  rw [setL (by simpa using h.lt), List.set_set]; rfl

theorem rclear_e {a : Nat} {s : Ses} (h : RefAt H a s) : AEnter (env n0 w0 gl) 30 [.ref a 0] H (fun y H' => y = .ret (.tup []) ∧ H' = rput H a s.clear) :=
  AEnter.refs h s.clear (v := .tup []) rfl (by
    have hF := atF h.cells
    have hA := h.cells
    have hh := And.intro hA hF
    refine enter (md := fun _ => 0) Tryz.func30 (fun hfit hgl => ?_)
    repeat' (first | refine go ?_ | (refine br (fun hc => ?_) (fun hc => ?_) <;> try (exfalso; omega)) | fail)
    exact .now ⟨_, _, _, [], rfl, by rw [List.append_nil]; rfl⟩)
end Go.Ab.Tryz

end

section
set_option linter.unusedSimpArgs false
set_option linter.unusedVariables false
set_option maxHeartbeats 8000000
set_option maxRecDepth 10000
namespace Go.Ab.Tryz
open Go Go.Ab Go.Proofs
attribute [local irreducible] W Wl Wop TrA WSeq WLoopS FPost DPost RPost WRound DK onEnd
attribute [local simp] belowL_bytesAV belowL_strsM
variable {n0 : Nat} {w0 : World} {gl : Nat → List AV} {H : List AO}

theorem rnew_e (host : List UInt8) (rc sz : Int) (hh0 : host.length ≤ 9223372036854775807) : AEnter (env n0 w0 gl) 11 [.agg [.str host, .int .i64 rc, .int .i64 sz]] H (fun y H' => y = .ret (.ref (H.length + 1) 0) ∧ H' = H ++ [.dead, .cells (refAV (newS (hostN host) (clampN 100 rc) (clampN 500000 sz)))]) := by
  have raw : AEnter (env n0 w0 gl) 11 [.agg [.str host, .int .i64 rc, .int .i64 sz]] H (fun y H' => y = .ret (.ref (H.length + 1) 0) ∧ ∃ c0, H' = H ++ [c0, .cells [.str (hostN host), .int .i64 (clampN 100 rc), .int .i64 (clampN 500000 sz), .sl 0 [] .full, .int .i64 0, .str [], .sl 0 [] .full, .sl 0 [] .full, .bool false, .bool false, .bool false]]) := by
    unfold hostN
    by_cases q : DomainOk host
    · have q2 := tf_true q
      rw [if_pos q2]
      have hh := q2
      refine enter (md := fun _ => 0) Tryz.func11 (fun hfit hgl => ?_)
      repeat' (first | refine go ?_ | (refine br (fun hc => ?_) (fun hc => ?_) <;> try (exfalso; omega)) | fail)
      exact .now ⟨rfl, _, rfl⟩
    · have q2 := tf_false q
      rw [if_neg (by rw [q2]; simp)]
      have hh := q2
      refine enter (md := fun _ => 0) Tryz.func11 (fun hfit hgl => ?_)
      repeat' (first | refine go ?_ | (refine br (fun hc => ?_) (fun hc => ?_) <;> try (exfalso; omega)) | fail)
      exact .now ⟨rfl, _, rfl⟩
  refine raw.hs ?_
  rintro x H1 ⟨rfl, c0, rfl⟩
  refine ⟨_, ?_, rfl, rfl⟩
  refine (HS.kill H.length).trans ?_
  rw [show (H ++ [c0, .cells [.str (hostN host), .int .i64 (clampN 100 rc), .int .i64 (clampN 500000 sz), .sl 0 [] .full, .int .i64 0, .str [], .sl 0 [] .full, .sl 0 [] .full, .bool false, .bool false, .bool false]]).set H.length .dead = H ++ [.dead, .cells [.str (hostN host), .int .i64 (clampN 100 rc), .int .i64 (clampN 500000 sz), .sl 0 [] .full, .int .i64 0, .str [], .sl 0 [] .full, .sl 0 [] .full, .bool false, .bool false, .bool false]] by simp [setE, setE0]]
  refine (HS.refAV (a := H.length + 1) (by rw [List.getElem?_append_right (by omega), Nat.add_sub_cancel_left]; rfl)).trans (HS.eq ?_)
  simp [setE, setE0, refAV, newS, bytesAV]
end Go.Ab.Tryz

end

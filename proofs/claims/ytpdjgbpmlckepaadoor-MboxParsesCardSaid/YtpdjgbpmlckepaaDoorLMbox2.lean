/- Walks: quotes put on and taken off. -/
import Derived.Test.YtpdjgbpmlckepaaDoorLMbox1
import Derived.Test.YtpdjgbpmlckepaaDoorFrE
set_option linter.unusedSimpArgs false
set_option linter.unusedVariables false
set_option maxHeartbeats 2000000
set_option maxRecDepth 4000
namespace Go.Ab.Tryd
open Go Go.Ab Go.Proofs
attribute [local irreducible] W Wl Wop TrA WSeq WLoopS FPost DPost RPost WRound DK onEnd
variable {n0 : Nat} {w0 : World} {gl : Nat → List AV} {H : List AO}
attribute [local simp] belowL_bytesAV

/-- What grows line by line. -/
def stepG (q : List UInt8 → List UInt8) (a x : List UInt8) : Res (List UInt8) Empty Empty := .go (a ++ q x)
theorem foldR_grow (q : List UInt8 → List UInt8) : ∀ (xs : List (List UInt8)) (a : List UInt8), foldR (stepG q) a xs = .go (a ++ xs.flatMap q)
  | [], a => by simp [foldR]
  | x :: xs, a => by simp only [foldR, stepG]; rw [foldR_grow q xs]; simp

instance quote_t (b : List UInt8) : Ctr (env n0 w0 gl) 25 [.sl b.length (bytesAV b) .ro] H (b.length ≤ 1000000000) (.sl (quoteS b).length (bytesAV (quoteS b)) .ro) H := .of fun hb => by
  refine enter (md := fun _ => 0) Tryd.func25 (fun hfit hgl => ?_)
  refine gos ?_
  refine wseq_normal ?_
  refine gos ?_
  refine wseq_shift (Shift.cellVec 1 H.length 0 (xs := [.sl 0 [] .full]) (by simp) (by simp) rfl rfl) ?_
  simp only [List.append_assoc, List.cons_append, List.nil_append, setE0, List.set_cons_zero, List.length_append, List.length_cons, List.length_nil, Nat.zero_add, Nat.reduceAdd]
  repeat' (first | refine go ?_ | (refine br (fun hc => ?_) (fun hc => ?_) <;> try (exfalso; omega)) | fail)
  refine over (fun x => [.sl x.length (bytesAV x) .ro]) (fun (a : List UInt8) r => H ++ [.cells [.vsl (H.length + 1) a.length], .vec 1 a.length (bytesAV a), .cells [.sl r.length (bytesAV r) .ro]])
    (fun (o : Empty) r => H ++ [.cells [.top], .vec 1 0 [], .cells [.sl r.length (bytesAV r) .ro]]) (fun (o : Empty) r => H ++ [.cells [.top], .vec 1 0 [], .cells [.sl r.length (bytesAV r) .ro]]) (fun _ => []) (fun _ => .ret) (stepG quoteL) [] b (lns b) ?_ ?_ ?_ ?_ ?_
  · intro fn G S T hG hS h
    exact mlines1_t b (n := H.length + 3 + 2) (by omega) (by omega) (fun j r k => by simp [G, getE]) (fun j r r' => by simp [G, setE]) (fun j r => by simp [G]) hG h
  · intro fn pre x post j r l' hx hj hft
    rw [foldR_grow] at hj
    obtain ⟨hp1, hp2, hp3⟩ := lns_parts hx
    have hq := quote_sum pre hp2
    simp only [List.nil_append, Res.go.injEq] at hj
    subst hj
    unfold stepG
    by_cases hB : Bg x
    · have hql : quoteL x = 62 :: x := by unfold quoteL; rw [if_pos hB]
      rw [hql]
      have hh := tf_true hB
      repeat' (first | refine go ?_ | (refine br (fun hc => ?_) (fun hc => ?_) <;> try (exfalso; omega)) | fail)
      refine .now ⟨rfl, ?_⟩
      generalize AO.loop _ _ _ _ _ _ _ _ = LL
      simp [bytesAV, byteAV, Nat.add_assoc, Nat.add_comm 1]
    · have hql : quoteL x = x := by unfold quoteL; rw [if_neg hB]
      rw [hql]
      have hh := tf_false hB
      repeat' (first | refine go ?_ | (refine br (fun hc => ?_) (fun hc => ?_) <;> try (exfalso; omega)) | fail)
      refine .now ⟨rfl, ?_⟩
      generalize AO.loop _ _ _ _ _ _ _ _ = LL
      simp [bytesAV, byteAV, Nat.add_assoc, Nat.add_comm 1]
  · intro j r hr
    rw [foldR_grow] at hr
    simp only [List.nil_append, Res.go.injEq] at hr
    subst hr
    rw [show (lns b).flatMap quoteL = quoteS b from rfl]
    refine gos ?_
    refine wseq_shift (Shift.cellKnow H.length 0 (H.length + 1) (xs := [.vsl (H.length + 1) (quoteS b).length]) (sz := 1) (n := (quoteS b).length) (ys := bytesAV (quoteS b)) (by simp) rfl (by simp) (by rw [getE]; rfl) rfl) ?_
    simp only [List.append_assoc, List.cons_append, List.nil_append, setE0, setE, List.set_cons_zero, List.set_cons_succ, List.length_append, List.length_cons, List.length_nil, Nat.zero_add, Nat.reduceAdd]
    repeat' (first | refine go ?_ | (refine br (fun hc => ?_) (fun hc => ?_) <;> try (exfalso; omega)) | fail)
    exact .junkd ⟨rfl, rfl⟩
  · intro o; nomatch o
  · intro fn p; nomatch p
instance unquote_t (b : List UInt8) : Ctr (env n0 w0 gl) 24 [.sl b.length (bytesAV b) .ro] H (b.length ≤ 1000000000) (.sl (unquoteS b).length (bytesAV (unquoteS b)) .ro) H := .of fun hb => by
  refine enter (md := fun _ => 0) Tryd.func24 (fun hfit hgl => ?_)
  refine gos ?_
  refine wseq_normal ?_
  refine gos ?_
  refine wseq_shift (Shift.cellVec 1 H.length 0 (xs := [.sl 0 [] .full]) (by simp) (by simp) rfl rfl) ?_
  simp only [List.append_assoc, List.cons_append, List.nil_append, setE0, List.set_cons_zero, List.length_append, List.length_cons, List.length_nil, Nat.zero_add, Nat.reduceAdd]
  repeat' (first | refine go ?_ | (refine br (fun hc => ?_) (fun hc => ?_) <;> try (exfalso; omega)) | fail)
  refine over (fun x => [.sl x.length (bytesAV x) .ro]) (fun (a : List UInt8) r => H ++ [.cells [.vsl (H.length + 1) a.length], .vec 1 a.length (bytesAV a), .cells [.sl r.length (bytesAV r) .ro]])
    (fun (o : Empty) r => H ++ [.cells [.top], .vec 1 0 [], .cells [.sl r.length (bytesAV r) .ro]]) (fun (o : Empty) r => H ++ [.cells [.top], .vec 1 0 [], .cells [.sl r.length (bytesAV r) .ro]]) (fun _ => []) (fun _ => .ret) (stepG unquoteL) [] b (lns b) ?_ ?_ ?_ ?_ ?_
  · intro fn G S T hG hS h
    exact mlines1_t b (n := H.length + 3 + 2) (by omega) (by omega) (fun j r k => by simp [G, getE]) (fun j r r' => by simp [G, setE]) (fun j r => by simp [G]) hG h
  · intro fn pre x post j r l' hx hj hft
    rw [foldR_grow] at hj
    obtain ⟨hp1, hp2, hp3⟩ := lns_parts hx
    have hq := unquote_sum pre
    simp only [List.nil_append, Res.go.injEq] at hj
    subst hj
    unfold stepG
    by_cases hB : Bg x
    · by_cases hm : 0 < mk x
      · have hql : unquoteL x = x.drop 1 := by unfold unquoteL; rw [if_pos ⟨hB, hm⟩]
        rw [hql]
        have htl : List.drop 1 (bytesAV x) = bytesAV (x.drop 1) := by simp [bytesAV]
        have htk : List.take x.length (bytesAV x) = bytesAV x := List.take_of_length_le (Nat.le_of_eq (bytesAV_len x))
        have hxd : (x.drop 1).length = x.length - 1 := List.length_drop
        have hh := And.intro (tf_true hB) (And.intro htl (And.intro htk hxd))
        repeat' (first | refine go ?_ | (refine br (fun hc => ?_) (fun hc => ?_) <;> try (exfalso; omega)) | fail)
        refine .now ⟨rfl, ?_⟩
        generalize AO.loop _ _ _ _ _ _ _ _ = LL
        simp [bytesAV, byteAV, Nat.add_assoc, Nat.add_comm 1]
      · have hql : unquoteL x = x := by unfold unquoteL; rw [if_neg (fun h => hm h.2)]
        rw [hql]
        have hh := tf_true hB
        repeat' (first | refine go ?_ | (refine br (fun hc => ?_) (fun hc => ?_) <;> try (exfalso; omega)) | fail)
        refine .now ⟨rfl, ?_⟩
        generalize AO.loop _ _ _ _ _ _ _ _ = LL
        simp [bytesAV, byteAV, Nat.add_assoc, Nat.add_comm 1]
    · have hql : unquoteL x = x := by unfold unquoteL; rw [if_neg (fun h => hB h.1)]
      rw [hql]
      have hh := tf_false hB
      repeat' (first | refine go ?_ | (refine br (fun hc => ?_) (fun hc => ?_) <;> try (exfalso; omega)) | fail)
      refine .now ⟨rfl, ?_⟩
      generalize AO.loop _ _ _ _ _ _ _ _ = LL
      simp [bytesAV, byteAV, Nat.add_assoc, Nat.add_comm 1]
  · intro j r hr
    rw [foldR_grow] at hr
    simp only [List.nil_append, Res.go.injEq] at hr
    subst hr
    rw [show (lns b).flatMap unquoteL = unquoteS b from rfl]
    refine gos ?_
    refine wseq_shift (Shift.cellKnow H.length 0 (H.length + 1) (xs := [.vsl (H.length + 1) (unquoteS b).length]) (sz := 1) (n := (unquoteS b).length) (ys := bytesAV (unquoteS b)) (by simp) rfl (by simp) (by rw [getE]; rfl) rfl) ?_
    simp only [List.append_assoc, List.cons_append, List.nil_append, setE0, setE, List.set_cons_zero, List.set_cons_succ, List.length_append, List.length_cons, List.length_nil, Nat.zero_add, Nat.reduceAdd]
    repeat' (first | refine go ?_ | (refine br (fun hc => ?_) (fun hc => ?_) <;> try (exfalso; omega)) | fail)
    exact .junkd ⟨rfl, rfl⟩
  · intro o; nomatch o
  · intro fn p; nomatch p
end Go.Ab.Tryd

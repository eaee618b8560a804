/- Walks: the body of a letter, read. -/
import Derived.Test.YtpdjgbpmlckepaaDoorLMbox7
import Derived.Test.YtpdjgbpmlckepaaDoorLMbox2
set_option linter.unusedSimpArgs false
set_option linter.unusedVariables false
set_option maxHeartbeats 4000000
set_option maxRecDepth 4000
namespace Go.Ab.Tryd
open Go Go.Ab Go.Proofs
attribute [local irreducible] W Wl Wop TrA WSeq WLoopS FPost DPost RPost WRound DK onEnd
attribute [local simp] belowL_bytesAV
variable {n0 : Nat} {w0 : World} {gl : Nat → List AV} {H : List AO}

def bstep (n : Nat) (x : List UInt8) : Res Nat Nat Empty := if isFrom x then .stop n else .go (n + x.length)
theorem foldR_bstep : ∀ (xs : List (List UInt8)) (n : Nat), foldR bstep n xs = .go (n + (xs.takeWhile fun x => !isFrom x).flatten.length) ∨ foldR bstep n xs = .stop (n + (xs.takeWhile fun x => !isFrom x).flatten.length)
  | [], n => .inl (by simp [foldR])
  | x :: xs, n => by
    cases hx : isFrom x with
    | true => right; simp [foldR, bstep, hx]
    | false =>
      have ih := foldR_bstep xs (n + x.length)
      simp only [foldR, bstep, hx, List.takeWhile_cons, Bool.not_false, if_true, List.flatten_cons, List.length_append, Bool.false_eq_true, if_false]
      rw [← Nat.add_assoc]; exact ih
theorem foldR_bgo {b : List UInt8} {pre post : List (List UInt8)} {x : List UInt8} {j : Nat} (hx : lns b = pre ++ x :: post) (h : foldR bstep 0 pre = .go j) : j + x.length ≤ b.length := by
  have h1 := (lns_parts hx).1
  have h2 := takeWhile_flat_len (fun x => !isFrom x) pre
  rcases foldR_bstep pre 0 with h3 | h3
  · rw [h3] at h; injection h with h; omega
  · rw [h3] at h; simp at h
def bodyRest (s : List UInt8) : List UInt8 := if 0 < bodyN s ∧ (s.getD (bodyN s - 1) 0).toNat = 10 then s.drop (bodyN s) else s
noncomputable def mbodyE (s : List UInt8) : AE := match mbodyR s with
  | some (b, _) => .ret (.sl b.length (bytesAV b) .ro)
  | none => .panic thrownM
theorem mbodyR_rest {s b y : List UInt8} (h : mbodyR s = some (b, y)) : y = bodyRest s := by
  unfold mbodyR at h
  split at h
  · rename_i hk
    simp only [Option.some.injEq, Prod.mk.injEq] at h
    unfold bodyRest
    rw [if_pos ⟨hk.1, hk.2.1⟩]; exact h.2.symm
  · simp at h
theorem bodyRest_len (s : List UInt8) : (bodyRest s).length ≤ s.length := by
  unfold bodyRest
  split
  · rw [List.length_drop]; omega
  · exact Nat.le_refl _
theorem set_same {H : List AO} {a : Nat} {o : AO} (h : H[a]? = some o) : H.set a o = H := by
  have ha := (List.getElem?_eq_some_iff.1 h).1
  apply List.ext_getElem?
  intro i
  by_cases e : a = i
  · subst e; rw [List.getElem?_set_self ha, h]
  · rw [List.getElem?_set_ne e]

theorem mbody_t {a : Nat} {s : List UInt8} (hs : s.length ≤ 1000000000) (hA : H[a]? = some (.cells [.sl s.length (bytesAV s) .ro])) :
    AEnter (env n0 w0 gl) 64 [.ref a 0] H (fun y H' => y = mbodyE s ∧ H' = H.set a (.cells [.sl (bodyRest s).length (bytesAV (bodyRest s)) .ro])) := by
  have ha := (List.getElem?_eq_some_iff.1 hA).1
  have hset := set_same hA
  have hA1 : ∀ l, (H ++ l)[a]? = some (.cells [.sl s.length (bytesAV s) .ro]) := fun l => by rw [List.getElem?_append_left ha]; exact hA
  have hg2 : ∀ (R : AO) (l : List AO) (k : Nat), (H.set a R ++ l)[H.length + k]? = l[k]? := fun R l k => by
    have := getE (H.set a R) l k
    rwa [List.length_set] at this
  have hs2 : ∀ (R : AO) (l : List AO) (k : Nat) (x : AO), (H.set a R ++ l).set (H.length + k) x = H.set a R ++ l.set k x := fun R l k x => by
    have := setE (H.set a R) l k x
    rwa [List.length_set] at this
  have hA2 : ∀ l x, (H ++ l).set a x = H.set a x ++ l := fun l x => List.set_append_left _ _ ha
  have hnl := bodyN_le s
  have hb1 : List.take (bodyN s - 1) (bytesAV s) = bytesAV (s.take (bodyN s - 1)) := by simp [bytesAV]
  have hb2 : List.drop (bodyN s) (bytesAV s) = bytesAV (s.drop (bodyN s)) := by simp [bytesAV]
  have hl1 : (s.take (bodyN s - 1)).length = bodyN s - 1 := by rw [List.length_take]; omega
  have hl2 : (s.drop (bodyN s)).length = s.length - bodyN s := List.length_drop
  have hta : List.take s.length (bytesAV s) = bytesAV s := List.take_of_length_le (by rw [bytesAV_len]; exact Nat.le_refl _)
  have htk : List.take (bodyN s - 1) (bytesAV (s.take (bodyN s - 1))) = bytesAV (s.take (bodyN s - 1)) := List.take_of_length_le (by rw [bytesAV_len]; omega)
  have hlr : ∀ o, (H.set a o).length = H.length := fun o => List.length_set
  refine enter (md := fun t => if t = 13 then 2 else 0) Tryd.func64 (fun hfit hgl => ?_)
  have hh := And.intro hA (And.intro hA1 (And.intro hA2 (And.intro hg2 hs2)))
  repeat' (first | refine go ?_ | (refine br (fun hc => ?_) (fun hc => ?_) <;> try (exfalso; omega)) | fail)
  refine over (fun x => [.sl x.length (bytesAV x) .ro]) (fun (n : Nat) r => H ++ [.cells [.int .i64 n], .cells [.sl r.length (bytesAV r) .ro]])
    (fun (n : Nat) r => H ++ [.cells [.int .i64 n], .cells [.sl r.length (bytesAV r) .ro]]) (fun (o : Empty) r => H ++ [.cells [.top], .cells [.sl r.length (bytesAV r) .ro]]) (fun _ => []) (fun _ => .exit 0) bstep 0 s (lns s) ?_ ?_ ?_ ?_ ?_
  · intro fn G S T hG hS h
    exact mlines1_t s (n := H.length + 2 + 2) (by omega) (by omega) (fun j r k => by simp [G, getE]) (fun j r r' => by simp [G, setE]) (fun j r => by simp [G]) hG h
  · intro fn pre x post j r l' hx hj hft
    have hjl := foldR_bgo hx hj
    unfold bstep
    by_cases hf : isFrom x = true
    · rw [if_pos hf]
      have hf2 : x.take 5 = fromB := of_decide_eq_true hf
      have hh := And.intro hh hf2
      repeat' (first | refine go ?_ | (refine br (fun hc => ?_) (fun hc => ?_) <;> try (exfalso; omega)) | fail)
      all_goals
        have hfl : Fit (H.length + (l'.length + 4)) l' := fun o ho => by
          rw [show H.length + (l'.length + 4) = H.length + (2 + (l'.length + 2)) by omega]
          exact hft o (by simp [ho])
        rw [show ∀ (a b c d : AO) (k : List AO), H ++ a :: b :: c :: d :: (k ++ [.dead]) = (H ++ a :: b :: c :: d :: k) ++ [.dead] from fun _ _ _ _ _ => by simp]
        exact .junkd ⟨rfl, by simp⟩
    · rw [if_neg hf]
      have hf2 : ¬ x.take 5 = fromB := fun h => hf (decide_eq_true h)
      have hh := And.intro hh hf2
      repeat' (first | refine go ?_ | (refine br (fun hc => ?_) (fun hc => ?_) <;> try (exfalso; omega)) | fail)
      all_goals
        have hfl : Fit (H.length + (l'.length + 4)) l' := fun o ho => by
          rw [show H.length + (l'.length + 4) = H.length + (2 + (l'.length + 2)) by omega]
          exact hft o (by simp [ho])
        rw [show ∀ (a b c d : AO) (k : List AO), H ++ a :: b :: c :: d :: (k ++ [.dead]) = (H ++ a :: b :: c :: d :: k) ++ [.dead] from fun _ _ _ _ _ => by simp]
        exact .junkd ⟨rfl, by simp⟩
  rotate_right 1
  · intro fn p
    exact p.elim
  all_goals
    intro j r hr
    have hj : j = bodyN s := by
      unfold bodyN
      rcases foldR_bstep (lns s) 0 with h3 | h3 <;> rw [h3] at hr <;> simp only [Nat.zero_add, Res.go.injEq, Res.stop.injEq, reduceCtorEq] at hr <;> exact hr.symm
    subst hj
    clear hr
    unfold mbodyE
    have hN : ((bodyN s : Int) - 1).toNat = bodyN s - 1 := by omega
    have hu : ∀ H, Ctr (env n0 w0 gl) 24 [.sl (bodyN s - 1) (bytesAV (s.take (bodyN s - 1))) .ro] H True (.sl (unquoteS (s.take (bodyN s - 1))).length (bytesAV (unquoteS (s.take (bodyN s - 1)))) .ro) H := fun H => ⟨fun _ => by
      have := (unquote_t (n0 := n0) (w0 := w0) (gl := gl) (H := H) (s.take (bodyN s - 1))).call (by omega)
      rw [hl1] at this; exact this⟩
    have hR0 : ∀ n, (AO.cells [.sl (s.drop (bodyN s)).length (bytesAV (s.drop (bodyN s))) .ro]).within n = true := fun n => by
      simp [AO.within, belowL, AV.within, cellsOf, belowL_bytesAV]
    rw [hl2] at hR0
    have hfG : ∀ o, (∀ n, AO.within n o = true) → Fit (H.set a o).length (H.set a o) := fun o hR => fun o' ho => by
      rw [List.length_set]
      rcases List.mem_or_eq_of_mem_set ho with h | h
      · exact hfit _ h
      · rw [h]; exact hR _
    by_cases c1 : 0 < bodyN s
    · by_cases c2 : (s.getD (bodyN s - 1) 0).toNat = 10
      · have hrest : bodyRest s = s.drop (bodyN s) := by unfold bodyRest; rw [if_pos ⟨c1, c2⟩]
        rw [hrest, hl2]
        by_cases c3 : bodyN s - 1 = 0
        · have hR : mbodyR s = some (unquoteS (s.take (bodyN s - 1)), s.drop (bodyN s)) := by unfold mbodyR; rw [if_pos ⟨c1, c2, .inl c3⟩]
          rw [hR]
          have hh := And.intro hh (And.intro c2 (And.intro hN (And.intro hb1 (And.intro hb2 (And.intro hl1 (And.intro hta (And.intro htk (And.intro (Nat.sub_zero (bodyN s - 1)) hlr))))))))
          repeat' (first | refine go ?_ | (refine br (fun hc => ?_) (fun hc => ?_) <;> try (exfalso; omega)) | fail)
          all_goals exact .junkd (hf := hfG _ hR0) ⟨rfl, rfl⟩
        · by_cases c4 : (s.getD (bodyN s - 1 - 1) 0).toNat = 10
          · have hR : mbodyR s = some (unquoteS (s.take (bodyN s - 1)), s.drop (bodyN s)) := by unfold mbodyR; rw [if_pos ⟨c1, c2, .inr c4⟩]
            rw [hR]
            have hg : ((s.take (bodyN s - 1)).getD (bodyN s - 1 - 1) 0) = s.getD (bodyN s - 1 - 1) 0 := by simp only [List.getD_eq_getElem?_getD, List.getElem?_take]; rw [if_pos (by omega)]
            have hh := And.intro hh (And.intro c2 (And.intro hN (And.intro hb1 (And.intro hb2 (And.intro hl1 (And.intro hta (And.intro htk (And.intro (Nat.sub_zero (bodyN s - 1)) (And.intro hg (And.intro c4 hlr))))))))))
            repeat' (first | refine go ?_ | (refine br (fun hc => ?_) (fun hc => ?_) <;> try (exfalso; omega)) | fail)
            all_goals exact .junkd (hf := hfG _ hR0) ⟨rfl, rfl⟩
          · have hR : mbodyR s = none := by unfold mbodyR; rw [if_neg (fun h => h.2.2.elim c3 c4)]
            rw [hR]
            have hg : ((s.take (bodyN s - 1)).getD (bodyN s - 1 - 1) 0) = s.getD (bodyN s - 1 - 1) 0 := by simp only [List.getD_eq_getElem?_getD, List.getElem?_take]; rw [if_pos (by omega)]
            have hh := And.intro hh (And.intro c2 (And.intro hN (And.intro hb1 (And.intro hb2 (And.intro hl1 (And.intro hta (And.intro htk (And.intro (Nat.sub_zero (bodyN s - 1)) (And.intro hg (And.intro c4 hlr))))))))))
            repeat' (first | refine go ?_ | (refine br (fun hc => ?_) (fun hc => ?_) <;> try (exfalso; omega)) | fail)
            all_goals exact .junkd (hf := hfG _ hR0) ⟨rfl, rfl⟩
      · have hrest : bodyRest s = s := by unfold bodyRest; rw [if_neg (fun h => c2 h.2)]
        have hR : mbodyR s = none := by unfold mbodyR; rw [if_neg (fun h => c2 h.2.1)]
        rw [hrest, hR, hset]
        have c2i : ¬ ((s.getD (bodyN s - 1) 0).toNat : Int) = 10 := by omega
        have hh := And.intro hh (And.intro c2i hN)
        repeat' (first | refine go ?_ | (refine br (fun hc => ?_) (fun hc => ?_) <;> try (exfalso; omega)) | fail)
        all_goals
          intro ts
          repeat' (first | refine go ?_ | (refine br (fun hc => ?_) (fun hc => ?_) <;> try (exfalso; omega)) | fail)
          all_goals exact .junkd ⟨rfl, rfl⟩
    · have hrest : bodyRest s = s := by unfold bodyRest; rw [if_neg (fun h => c1 h.1)]
      have hR : mbodyR s = none := by unfold mbodyR; rw [if_neg (fun h => c1 h.1)]
      rw [hrest, hR, hset]
      repeat' (first | refine go ?_ | (refine br (fun hc => ?_) (fun hc => ?_) <;> try (exfalso; omega)) | fail)
      all_goals
        intro ts
        repeat' (first | refine go ?_ | (refine br (fun hc => ?_) (fun hc => ?_) <;> try (exfalso; omega)) | fail)
        all_goals exact .junkd ⟨rfl, rfl⟩

end Go.Ab.Tryd

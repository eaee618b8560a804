/- Walks: the law on what a session takes. -/
import Derived.Test.YtocoejhiphcehaaGreatDoorLThrA
set_option linter.unusedSimpArgs false
set_option linter.unusedVariables false
set_option maxHeartbeats 16000000
set_option maxRecDepth 10000
namespace Go.Ab.Tryz
open Go Go.Ab Go.Proofs
attribute [local irreducible] W Wl Wop TrA WSeq WLoopS WLoopM FPost DPost RPost WRound DK onEnd
attribute [local simp] belowL_bytesAV belowL_strsM belowL_linesAV belowL_envs belowL_bods belowL_ints belowL_appM
variable {n0 : Nat} {w0 : World} {gl : Nat → List AV} {H : List AO}

def FewOk (l : List (List UInt8)) : Prop := l.length ≤ 40 ∧ ∀ x ∈ l, x.length ≤ 1500
theorem few_flat {l : List (List UInt8)} (h : FewOk l) : l.flatten.length ≤ 60000 := by
  have key : ∀ l : List (List UInt8), (∀ x ∈ l, x.length ≤ 1500) → l.flatten.length ≤ 1500 * l.length := by
    intro l
    induction l with
    | nil => intro _; simp
    | cons x l ih =>
      intro h
      have h1 := h x (by simp)
      have h2 := ih fun y hy => h y (by simp [hy])
      simp only [List.flatten_cons, List.length_append, List.length_cons]; omega
  have h1 := key l h.2
  have h2 := h.1
  omega
theorem few_e (l : List (List UInt8)) (hl : l.length ≤ 9223372036854775807) (hx : ∀ x ∈ l, x.length ≤ 9223372036854775807) : AEnter (env n0 w0 gl) 9 [.sl l.length (linesAV l) .ro] H (fun y H' => y = .ret (.bool (tf (FewOk l))) ∧ H' = H) := by
  have hla := linesAV_len l
  by_cases q : l.length ≤ 40
  · have hq : ¬ ((l.length : Int) > 40) := by omega
    have hh := And.intro hq hla
    refine enter (md := fun _ => 0) Tryz.func9 (fun hfit hgl => ?_)
    repeat' (first | refine go ?_ | (refine br (fun hc => ?_) (fun hc => ?_) <;> try (exfalso; omega)) | fail)
    refine loop0 (fun i : Nat => (.sl l.length (linesAV l) .ro :: .top :: .bool false :: .top :: .top :: .top :: .top :: .top :: .sl l.length (linesAV l) .ro :: .int .i64 l.length :: .int .i64 (i : Int) :: .top :: .top :: .top :: .top :: .top :: .top :: .top :: [])) (fun i => i ≤ l.length ∧ ∀ x ∈ l.take i, x.length ≤ 1500) (fun i => l.length - i) 0 ⟨Nat.zero_le _, fun x hx => by simp at hx⟩ ?_
    rintro i ⟨hi, hall⟩
    by_cases hlt : i < l.length
    · have hat := rlines_at hlt
      have hmem := List.getElem_mem hlt
      have hxl := hx _ hmem
      have htk : l.take (i + 1) = l.take i ++ [l[i]] := by rw [List.take_add_one, List.getElem?_eq_getElem hlt]; rfl
      generalize l[i] = x at *
      by_cases p : x.length ≤ 1500
      · have hp : ¬ ((x.length : Int) > 1500) := by omega
        have hh := And.intro hp (And.intro hla hat)
        repeat' (first | refine go ?_ | (refine br (fun hc => ?_) (fun hc => ?_) <;> try (exfalso; omega)) | fail)
        refine again (i + 1) ⟨by omega, fun y hy => ?_⟩ (by omega)
        rw [htk] at hy
        rcases List.mem_append.1 hy with e | e
        · exact hall y e
        · rw [List.mem_singleton.1 e]; exact p
      · have hno : tf (FewOk l) = false := tf_false fun h => p (h.2 x hmem)
        rw [hno]
        have hp : (x.length : Int) > 1500 := by omega
        have hh := And.intro hp (And.intro hla hat)
        repeat' (first | refine go ?_ | (refine br (fun hc => ?_) (fun hc => ?_) <;> try (exfalso; omega)) | fail)
        exact .now ⟨rfl, rfl⟩
    · obtain rfl : i = l.length := by omega
      rw [List.take_length] at hall
      have hyes : tf (FewOk l) = true := tf_true ⟨q, hall⟩
      rw [hyes]
      have hh := hla
      repeat' (first | refine go ?_ | (refine br (fun hc => ?_) (fun hc => ?_) <;> try (exfalso; omega)) | fail)
      exact .now ⟨rfl, rfl⟩
  · have hno : tf (FewOk l) = false := tf_false fun h => q h.1
    rw [hno]
    have hq : (l.length : Int) > 40 := by omega
    have hh := hq
    refine enter (md := fun _ => 0) Tryz.func9 (fun hfit hgl => ?_)
    repeat' (first | refine go ?_ | (refine br (fun hc => ?_) (fun hc => ?_) <;> try (exfalso; omega)) | fail)
    exact .now ⟨rfl, rfl⟩
theorem envs_at : ∀ {l : List MsgA} {i : Nat} (h : i < l.length), List.take 3 (List.drop (i * 3) (envsAV l)) = [.str (l[i]).fro, .sl (l[i]).to.length ((l[i]).to.map .str) .ro, .int .i64 0]
  | m :: l, 0, h => rfl
  | m :: l, i + 1, h => by
    have := envs_at (l := l) (i := i) (by simpa using h)
    simp only [List.getElem_cons_succ]
    rw [← this]
    rw [show envsAV (m :: l) = envAV m ++ envsAV l from rfl, List.drop_append, List.drop_of_length_le (by simp [envAV] <;> omega), List.nil_append]
    congr 2
    simp [envAV]; omega
theorem bods_at {l : List MsgA} {i : Nat} (h : i < l.length) : (bodsAV l).getD i .top = .str (l[i]).body := by
  rw [List.getD_eq_getElem?_getD]
  simp only [bodsAV, List.getElem?_map, List.getElem?_eq_getElem h, Option.map_some, Option.getD_some]
theorem mbox_le {s : List UInt8} (h : MailboxOk s) : s.length ≤ 320 := by
  obtain ⟨k, _, _, h3, ⟨_, h4⟩, _⟩ := h
  rw [List.length_drop] at h4; omega
theorem drain_n (codes : List Int) : ∀ (f n : Nat) (s : Ses), (drainK codes f n s).n = n + (drainK codes f n s).msgs.length ∧ (drainK codes f n s).n ≤ n + f
  | 0, n, s => ⟨rfl, Nat.le_refl _⟩
  | f + 1, n, s => by
    rw [drainK]
    split
    · have ih := drain_n codes f (n + 1) (answerS s (codeA codes n)).2
      simp only [Thru.then, List.length_append, List.length_cons, List.length_nil]
      omega
    · exact ⟨rfl, by simp⟩
theorem thru_n (codes : List Int) : ∀ (l : List (List UInt8)) (n : Nat) (s : Ses), n ≤ 201 → (thruK codes l n s).n = n + (thruK codes l n s).msgs.length ∧ (thruK codes l n s).n ≤ 201
  | [], n, s, h => ⟨rfl, h⟩
  | b :: l, n, s, h => by
    have h1 := drain_n codes (201 - n) n (feedS s b).2
    have e : (pieceK codes n s b).n = n + (pieceK codes n s b).msgs.length ∧ (pieceK codes n s b).n ≤ 201 := by
      unfold pieceK drain
      simp only [Thru.then, List.nil_append]
      exact ⟨h1.1, by omega⟩
    have ih := thru_n codes l (pieceK codes n s b).n (pieceK codes n s b).s e.2
    rw [thruK]
    simp only [Thru.then, List.length_append]
    omega
theorem thru_few (codes : List Int) (l : List (List UInt8)) (s : Ses) : (thruK codes l 0 s).msgs.length ≤ 201 := by
  have := thru_n codes l 0 s (by decide)
  omega
/-- A place for the two bounds and a session that is made of them. -/
def boxB (host : List UInt8) (rc sz : Int) : AO := .cells [.str host, .int .i64 rc, .int .i64 sz]
noncomputable def s25 (host : List UInt8) (rc sz : Int) : Ses := newS (hostN host) (clampN 100 rc) (clampN 500000 sz)
theorem hostN_len {host : List UInt8} : (hostN host).length ≤ 1000 := by
  unfold hostN
  split
  · rename_i h
    have := (tf_iff.1 h).2
    omega
  · simp
theorem s25_good (host : List UInt8) (rc sz : Int) : (s25 host rc sz).Good := good_new _ hostN_len (clamp_in (by decide)) (clamp_in (by decide))
theorem serverTakes_t [hml : GLInt gl 0] [ht : Tab10 n0 w0] (host : List UInt8) (rc sz : Int) (l : List (List UInt8)) (codes : List Int) (hb : host.length ≤ 9223372036854775807) (hl : l.length ≤ 9223372036854775807) (hx : ∀ x ∈ l, x.length ≤ 9223372036854775807) (hcl : codes.length ≤ 9223372036854775807) (hcb : ∀ x ∈ codes, -9223372036854775808 ≤ x ∧ x ≤ 9223372036854775807) :
    AEnter (env n0 w0 gl) 5 [.agg [.str host, .int .i64 rc, .int .i64 sz], .sl l.length (linesAV l) .ro, .sl codes.length (intsAV codes) .ro] H (fun y H' => y = .ret (.bool true) ∧ H' = H) := by
  have hfw : ∀ X, Ctr (env n0 w0 gl) 9 [.sl l.length (linesAV l) .ro] X True (.bool (tf (FewOk l))) X := fun X => .of fun _ => few_e l hl hx
  by_cases hf : FewOk l
  · have hft := tf_true hf
    have hnew : Ctr (env n0 w0 gl) 10 [.agg [.str host, .int .i64 rc, .int .i64 sz]] (H ++ [.cells [.str host, .int .i64 rc, .int .i64 sz]]) True (.ref (H.length + 2) 0) (H ++ [.cells [.str host, .int .i64 rc, .int .i64 sz], .dead, .cells (sesAV (s25 host rc sz) (H.length + 3) 1 (H.length + 4) 1), .tail 1 1, .tail 1 1]) := .of fun _ => by
      have := new_e (n0 := n0) (w0 := w0) (gl := gl) (H := H ++ [.cells [.str host, .int .i64 rc, .int .i64 sz]]) host rc sz hb
      simp only [List.length_append, List.length_cons, List.length_nil, List.append_assoc, List.cons_append, List.nil_append, Nat.zero_add, Nat.add_assoc, Nat.reduceAdd] at this
      exact this
    have hthr : Ctr (env n0 w0 gl) 20 [.ref (H.length + 2) 0, .sl l.length (linesAV l) .ro, .sl codes.length (intsAV codes) .ro] (H ++ [.cells [.str host, .int .i64 rc, .int .i64 sz], .dead, .cells (sesAV (s25 host rc sz) (H.length + 3) 1 (H.length + 4) 1), .tail 1 1, .tail 1 1]) True (thruV (thruK codes l 0 (s25 host rc sz))) (H ++ [.cells [.str host, .int .i64 rc, .int .i64 sz], .dead, .dead, .dead, .dead]) := .of fun _ => by
      have hat : SesAt (H ++ [.cells [.str host, .int .i64 rc, .int .i64 sz], .dead, .cells (sesAV (s25 host rc sz) (H.length + 3) 1 (H.length + 4) 1), .tail 1 1, .tail 1 1]) (H.length + 2) (H.length + 3) (H.length + 4) (s25 host rc sz) 1 1 := by
        refine ⟨?_, ?_, ?_, by omega⟩ <;> simp [getE, getE0]
      refine (through_d hat (s25_good host rc sz) rfl l codes hf.1 (few_flat hf) hcl hcb).hs ?_
      rintro y H1 ⟨rfl, rfl⟩
      refine ⟨_, (HS.kill (H.length + 2)).trans (HS.eq ?_), rfl, rfl⟩
      simp [sdone, setE, setE0]
    unfold thruV at hthr
    have hok := thru_ok codes l 0 (s25 host rc sz) (s25_good host rc sz).inv
    have hMn := thru_few codes l (s25 host rc sz)
    generalize (thruK codes l 0 (s25 host rc sz)).out = tout at hthr
    generalize (thruK codes l 0 (s25 host rc sz)).msgs = M at hthr hok hMn
    have hel := envs_len M
    have hbl := bods_len M
    have hh := And.intro hft (And.intro hel hbl)
    refine enter (md := fun _ => 0) Tryz.func5 (fun hfit hgl => ?_)
    repeat' (first | refine go ?_ | (refine br (fun hc => ?_) (fun hc => ?_) <;> try (exfalso; omega)) | fail)
    refine loop (fun i : Nat => (.agg [.str host, .int .i64 rc, .int .i64 sz] :: .top :: .top :: .ref H.length 0 :: .top :: .top :: .bool false :: .top :: .top :: .sl M.length (envsAV M) .ro :: .sl M.length (bodsAV M) .ro :: .top :: .top :: .top :: .top :: .top :: .top :: .top :: .top :: .top :: .top :: .top :: .top :: .top :: .top :: .top :: .top :: .top :: .top :: .top :: .top :: .top :: .sl M.length (envsAV M) .ro :: .int .i64 M.length :: .int .i64 (i : Int) :: .top :: .top :: .top :: .top :: .top :: .top :: .top :: .top :: .top :: .top :: .top :: .top :: .top :: .top :: .top :: .top :: .top :: .top :: .top :: .top :: .top :: .top :: .top :: .top :: .top :: .top :: .top :: .top :: .top :: .top :: .top :: .top :: .top :: .top :: .top :: .top :: .top :: .top :: .top :: .top :: .top :: .top :: .top :: .top :: .top :: .top :: .top :: .top :: .top :: .top :: .top :: .top :: .top :: [])) (fun _ => H ++ [.cells [.str host, .int .i64 rc, .int .i64 sz], .dead, .dead, .dead, .dead]) (fun i => i ≤ M.length) (fun i => M.length - i) 0 (Nat.zero_le _) ?_
    intro i hi
    by_cases hlt : i < M.length
    · have hat := envs_at hlt
      have hab := bods_at hlt
      obtain ⟨k1, k2, k3, k4⟩ := hok _ (List.getElem_mem hlt)
      have hrc : (s25 host rc sz).rc = clampN 100 rc := rfl
      have hsz : (s25 host rc sz).sz = clampN 500000 sz := rfl
      have hc1 := clamp_in (M := 100) (x := rc) (by decide)
      have hc2 := clamp_in (M := 500000) (x := sz) (by decide)
      rw [hrc] at k3
      rw [hsz] at k4
      generalize hm : M[i] = m at *
      have htl : m.to.length ≤ 100 := by omega
      have hfl : m.fro.length ≤ 1000 := by
        rcases k1.1 with e | e
        · omega
        · exact Nat.le_trans (mbox_le e) (by decide)
      have hto : ∀ k, k < m.to.length → (m.to.getD k []).length ≤ 1000 := fun k hk => Nat.le_trans (mbox_le (k1.2.2.2 k hk)) (by decide)
      have henv : ∀ X, Ctr (env n0 w0 gl) 21 [.agg [.str m.fro, .sl m.to.length (m.to.map .str) .ro, .int .i64 0]] X True (.bool true) X := fun X => ⟨fun _ => by
        have := (envelope_t (n0 := n0) (w0 := w0) (gl := gl) (H := X) m.fro m.to 0 .ro).call ⟨by omega, fun k hk => by have := hto k hk; omega, by omega⟩
        rw [tf_true k1] at this; exact this⟩
      have hq1 : ¬ ((m.to.length : Int) > (if (if 100 < rc then 100 else rc) < 1 then 1 else (if 100 < rc then 100 else rc))) := by
        unfold clampN at k3
        split <;> split at k3 <;> omega
      have hq2 : ¬ ((m.body.length : Int) > (if (if 500000 < sz then 500000 else sz) < 1 then 1 else (if 500000 < sz then 500000 else sz))) := by
        unfold clampN at k4
        split <;> split at k4 <;> omega
      have hh := And.intro hat (And.intro hab (And.intro hel (And.intro hbl (And.intro hq1 hq2))))
      repeat' (first | refine go ?_ | (refine br (fun hc => ?_) (fun hc => ?_) <;> try (exfalso; omega)) | fail)
      refine loop0 (fun j : Nat => (.agg [.str host, .int .i64 rc, .int .i64 sz] :: .top :: .top :: .ref H.length 0 :: .top :: .top :: .bool false :: .top :: .top :: .sl M.length (envsAV M) .ro :: .sl M.length (bodsAV M) .ro :: .top :: .ref (H.length + 5) 0 :: .top :: .top :: .top :: .top :: .top :: .top :: .top :: .top :: .top :: .top :: .top :: .top :: .top :: .top :: .top :: .top :: .top :: .top :: .top :: .sl M.length (envsAV M) .ro :: .int .i64 M.length :: .int .i64 (i : Int) :: .top :: .top :: .top :: .top :: .top :: .top :: .top :: .top :: .top :: .top :: .top :: .top :: .top :: .top :: .top :: .top :: .top :: .top :: .top :: .top :: .top :: .top :: .top :: .top :: .top :: .top :: .top :: .top :: .top :: .top :: .top :: .int .i64 m.to.length :: .int .i64 (j : Int) :: .top :: .top :: .top :: .top :: .top :: .top :: .top :: .top :: .top :: .top :: .top :: .top :: .top :: .top :: .top :: .top :: .top :: .top :: .top :: .top :: [])) (fun j => j ≤ m.to.length) (fun j => m.to.length - j) 0 (Nat.zero_le _) ?_
      intro j hj
      by_cases hjl : j < m.to.length
      · repeat' (first | refine go ?_ | (refine br (fun hc => ?_) (fun hc => ?_) <;> try (exfalso; omega)) | fail)
        refine loop0 (fun k : Nat => (.agg [.str host, .int .i64 rc, .int .i64 sz] :: .top :: .top :: .ref H.length 0 :: .top :: .top :: .bool false :: .top :: .top :: .sl M.length (envsAV M) .ro :: .sl M.length (bodsAV M) .ro :: .top :: .ref (H.length + 5) 0 :: .int .i64 (j : Int) :: .top :: .top :: .top :: .top :: .top :: .top :: .top :: .top :: .top :: .top :: .top :: .top :: .top :: .top :: .top :: .top :: .top :: .top :: .sl M.length (envsAV M) .ro :: .int .i64 M.length :: .int .i64 (i : Int) :: .top :: .top :: .top :: .top :: .top :: .top :: .top :: .top :: .top :: .top :: .top :: .top :: .top :: .top :: .top :: .top :: .top :: .top :: .top :: .top :: .top :: .top :: .top :: .top :: .top :: .top :: .top :: .top :: .top :: .top :: .top :: .int .i64 m.to.length :: .int .i64 (j : Int) :: .top :: .top :: .int .i64 (j : Int) :: .int .i64 (k : Int) :: .top :: .top :: .top :: .top :: .top :: .top :: .top :: .top :: .top :: .top :: .top :: .top :: .top :: .top :: .top :: .top :: [])) (fun k => k ≤ j) (fun k => j - k) 0 (Nat.zero_le _) ?_
        intro k hk
        by_cases hkl : k < j
        · have hne : ¬ m.to.getD j [] = m.to.getD k [] := fun e => by
            have hp := List.pairwise_iff_getElem.1 k2 k j (by omega) hjl hkl
            rw [List.getD_eq_getElem?_getD, List.getD_eq_getElem?_getD, List.getElem?_eq_getElem hjl, List.getElem?_eq_getElem (by omega)] at e
            exact hp e.symm
          have hkt : k < m.to.length := by omega
          have hh := hne
          repeat' (first | refine go ?_ | (refine br (fun hc => ?_) (fun hc => ?_) <;> try (exfalso; omega)) | fail)
          exact again (k + 1) (by omega) (by omega)
        · obtain rfl : k = j := by omega
          repeat' (first | refine go ?_ | (refine br (fun hc => ?_) (fun hc => ?_) <;> try (exfalso; omega)) | fail)
          exact again (k + 1) (by omega) (by omega)
      · obtain rfl : j = m.to.length := by omega
        repeat' (first | refine go ?_ | (refine br (fun hc => ?_) (fun hc => ?_) <;> try (exfalso; omega)) | fail)
        exact againJ (i + 1) (by omega) (by omega) [.cells [.str m.fro, .sl m.to.length (m.to.map .str) .ro, .int .i64 0]] (by simp)
    · obtain rfl : i = M.length := by omega
      have hh := And.intro hel hbl
      repeat' (first | refine go ?_ | (refine br (fun hc => ?_) (fun hc => ?_) <;> try (exfalso; omega)) | fail)
      exact .junkd ⟨rfl, rfl⟩
  · have hft := tf_false hf
    have hh := hft
    refine enter (md := fun _ => 0) Tryz.func5 (fun hfit hgl => ?_)
    repeat' (first | refine go ?_ | (refine br (fun hc => ?_) (fun hc => ?_) <;> try (exfalso; omega)) | fail)
    exact .junkd ⟨rfl, rfl⟩
end Go.Ab.Tryz

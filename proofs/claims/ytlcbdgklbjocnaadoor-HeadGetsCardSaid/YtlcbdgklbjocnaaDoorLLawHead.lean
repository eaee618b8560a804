/- Walks: the laws on heads. -/
import Derived.Test.YtlcbdgklbjocnaaDoorLRef08b
import Derived.Test.YtlcbdgklbjocnaaDoorLRef08c
import Derived.Test.YtlcbdgklbjocnaaDoorLHead3
import Derived.Test.YtlcbdgklbjocnaaDoorLLaw08
import Derived.Test.YtlcbdgklbjocnaaDoorLPure08
set_option linter.unusedSimpArgs false
set_option linter.unusedVariables false
set_option maxHeartbeats 4000000
set_option maxRecDepth 4000
namespace Go.Ab.Tryd
open Go Go.Ab Go.Proofs
attribute [local irreducible] W Wl Wop TrA WSeq WLoopS FPost DPost RPost WRound DK onEnd
variable {n0 : Nat} {w0 : World} {gl : Nat → List AV} {H : List AO}
attribute [local simp] belowL_bytesAV

theorem headP_awake : headP [65, 58, 32, 120, 13, 10, 32, 121, 13, 10, 13, 10, 122] = ([([65], [120, 32, 121])], 12, 0) := by
  have h1 : linesOf [65, 58, 32, 120, 13, 10, 32, 121, 13, 10, 13, 10, 122] = [[65, 58, 32, 120], [32, 121], []] := by
    rw [linesOf_some (x := [65, 58, 32, 120]) (y := [32, 121, 13, 10, 13, 10, 122]) (by decide), linesOf_some (x := [32, 121]) (y := [13, 10, 122]) (by decide), linesOf_some (x := []) (y := [122]) (by decide), linesOf_none (by decide)]
  have hN : NameOk [65] := ⟨fun i hi => by
    have : i = 0 := by simp at hi; omega
    subst this
    exact ⟨by decide, by decide, by decide⟩, by decide, by decide⟩
  have s1 : hstep ([], 0) [65, 58, 32, 120] = .go ([([65], [32, 120])], 6) := by
    unfold hstep
    rw [if_neg (by decide), if_neg (by decide), show cutAt 58 [65, 58, 32, 120] = some ([65], [32, 120]) by decide]
    simp only [tf_true hN, if_true]; rfl
  have s2 : hstep ([([65], [32, 120])], 6) [32, 121] = .go ([([65], [32, 120, 32, 121])], 10) := by
    unfold hstep
    rw [if_neg (by decide), if_pos (by decide), if_neg (by decide)]; rfl
  have s3 : hstep ([([65], [32, 120, 32, 121])], 10) [] = .stop ([([65], [32, 120, 32, 121])], 12) := by
    unfold hstep; rw [if_pos (by decide)]
  have hR : headR [65, 58, 32, 120, 13, 10, 32, 121, 13, 10, 13, 10, 122] = some ([([65], [32, 120, 32, 121])], 12) := by
    unfold headR
    rw [h1]
    simp only [foldR, s1, s2, s3]
  unfold headP
  rw [hR]
  simp only
  rw [if_pos (by decide)]
  rfl

instance awake08_t [hml : GLInt gl 0] : Ctr (env n0 w0 gl) 23 [] H True (.bool true) H := .of fun _ => by
  have hp : ∀ H, Ctr (env n0 w0 gl) 24 [.sl 13 [.int .u8 65, .int .u8 58, .int .u8 32, .int .u8 120, .int .u8 13, .int .u8 10, .int .u8 32, .int .u8 121, .int .u8 13, .int .u8 10, .int .u8 13, .int .u8 10, .int .u8 122] .ro] H True (.tup [.sl 1 [.str [65], .str [120, 32, 121]] .ro, .int .i64 12, .int .i64 0]) H := fun H => ⟨fun _ => by
    have := (parse_head_t (n0 := n0) (w0 := w0) (gl := gl) (H := H) [65, 58, 32, 120, 13, 10, 32, 121, 13, 10, 13, 10, 122]).call (by decide)
    rw [headP_awake] at this
    exact this⟩
  refine enter (md := fun t => if t = 5 then 2 else 0) Tryd.func23 (fun hfit hgl => ?_)
  repeat' (first | refine go ?_ | (refine br (fun hc => ?_) (fun hc => ?_) <;> try (exfalso; omega)) | fail)
  exact .junkd ⟨rfl, rfl⟩

/-- What is known of what was parsed. -/
theorem headP_bounds {b : List UInt8} {l : Flds} {u : Nat} {e : Int} (h : headP b = (l, u, e)) : l.length ≤ 1000 ∧ u ≤ b.length ∧ (e ≠ 0 → l = [] ∧ u = 0) := by
  unfold headP at h
  cases hR : headR b with
  | none => rw [hR] at h; injection h with h1 h2; injection h2 with h2 h3; subst h1; subst h2; subst h3; exact ⟨by simp, by omega, fun _ => ⟨rfl, rfl⟩⟩
  | some j =>
    obtain ⟨l', u'⟩ := j
    rw [hR] at h
    have := headR_inv hR
    by_cases hc : l'.length ≤ 1000 ∧ u' ≤ 100000
    · simp only [if_pos hc] at h
      injection h with h1 h2; injection h2 with h2 h3; subst h1; subst h2; subst h3
      exact ⟨by rw [List.length_map]; exact hc.1, this.2.1, fun h => absurd rfl h⟩
    · simp only [if_neg hc] at h
      injection h with h1 h2; injection h2 with h2 h3; subst h1; subst h2; subst h3
      exact ⟨by simp, by omega, fun _ => ⟨rfl, rfl⟩⟩

theorem headParses_t [hml : GLInt gl 0] (b : List UInt8) (hl : b.length ≤ 9223372036854775807) : AEnter (env n0 w0 gl) 6 [.sl b.length (bytesAV b) .ro] H (fun y H' => y = .ret (.bool true) ∧ H' = H) := by
  rcases hpb : headP b with ⟨l, u, e⟩
  have hbd := headP_bounds hpb
  have hs : ∀ H tok tok2, Ctr (env n0 w0 gl) 26 [.sl l.length (fldAV l) tok, .sl l.length (fldAV l) tok2] H True (.bool true) H := fun H tok tok2 => ⟨fun _ => by
    have := (same_t (n0 := n0) (w0 := w0) (gl := gl) (H := H) l l tok tok2).call (by omega)
    rwa [tf_true rfl] at this⟩
  have hp (hb : b.length < 4294967281) : ∀ H, Ctr (env n0 w0 gl) 24 [.sl b.length (bytesAV b) .ro] H True (.tup [.sl l.length (fldAV l) (tokP e), .int .i64 u, .int .i64 e]) H := fun H => ⟨fun _ => by
    have := (parse_head_t (n0 := n0) (w0 := w0) (gl := gl) (H := H) b).call hb
    rw [hpb] at this
    exact this⟩
  have hp2 (hb : b.length < 4294967281) : ∀ H, Ctr (env n0 w0 gl) 25 [.sl b.length (bytesAV b) .ro] H True (.tup [.sl l.length (fldAV l) (tokP e), .int .i64 u, .int .i64 e]) H := fun H => ⟨fun _ => by
    have := (ref_parse_t (n0 := n0) (w0 := w0) (gl := gl) (H := H) b).call hb
    rw [hpb] at this
    exact this⟩
  refine enter (md := fun _ => 0) Tryd.func6 (fun hfit hgl => ?_)
  by_cases hb : b.length < 4294967281
  · have hp' := hp hb
    have hp2' := hp2 hb
    repeat' (first | refine go ?_ | (refine br (fun hc => ?_) (fun hc => ?_) <;> try (exfalso; omega)) | fail)
    all_goals exact .now ⟨rfl, rfl⟩
  · repeat' (first | refine go ?_ | (refine br (fun hc => ?_) (fun hc => ?_) <;> try (exfalso; omega)) | fail)
    exact .now ⟨rfl, rfl⟩

theorem few_bounds {l : Flds} (h : FewOk l) : l.length ≤ 9223372036854775807 ∧ ∀ i, i < l.length → (l.getD i ([], [])).1.length + (l.getD i ([], [])).2.length ≤ 1000000 :=
  ⟨by have := h.1; omega, fun i hi => by have := h.2 i hi; omega⟩

theorem headShows_t (l : Flds) [hml : GLInt gl 0] : AEnter (env n0 w0 gl) 8 [.sl l.length (fldAV l) .ro] H (fun y H' => y = .ret (.bool true) ∧ H' = H) := by
  by_cases hf : FewOk l
  · have hfw : ∀ H, Ctr (env n0 w0 gl) 27 [.sl l.length (fldAV l) .ro] H True (.bool true) H := fun H => ⟨fun _ => by
      have := (few_t (n0 := n0) (w0 := w0) (gl := gl) (H := H) l).call trivial
      rwa [tf_true hf] at this⟩
    rcases hsh : showR l with s | e
    · have h1 : ∀ H, Ctr (env n0 w0 gl) 28 [.sl l.length (fldAV l) .ro] H True (.tup [.sl s.length (bytesAV s) .ro, .int .i64 0]) H := fun H => ⟨fun _ => by
        have := (show_t (n0 := n0) (w0 := w0) (gl := gl) (H := H) l).call (few_bounds hf)
        rw [hsh] at this; exact this⟩
      have h2 : ∀ H, Ctr (env n0 w0 gl) 29 [.sl l.length (fldAV l) .ro] H True (.tup [.sl s.length (bytesAV s) .ro, .int .i64 0]) H := fun H => ⟨fun _ => by
        have := (ref_show_t (n0 := n0) (w0 := w0) (gl := gl) (H := H) l).call (few_bounds hf)
        rw [hsh] at this; exact this⟩
      refine enter (md := fun _ => 0) Tryd.func8 (fun hfit hgl => ?_)
      repeat' (first | refine go ?_ | (refine br (fun hc => ?_) (fun hc => ?_) <;> try (exfalso; omega)) | fail)
      exact .now ⟨rfl, rfl⟩
    · have h1 : ∀ H, Ctr (env n0 w0 gl) 28 [.sl l.length (fldAV l) .ro] H True (.tup [.sl 0 [] .full, .int .i64 e]) H := fun H => ⟨fun _ => by
        have := (show_t (n0 := n0) (w0 := w0) (gl := gl) (H := H) l).call (few_bounds hf)
        rw [hsh] at this; exact this⟩
      have h2 : ∀ H, Ctr (env n0 w0 gl) 29 [.sl l.length (fldAV l) .ro] H True (.tup [.sl 0 [] .full, .int .i64 e]) H := fun H => ⟨fun _ => by
        have := (ref_show_t (n0 := n0) (w0 := w0) (gl := gl) (H := H) l).call (few_bounds hf)
        rw [hsh] at this; exact this⟩
      refine enter (md := fun _ => 0) Tryd.func8 (fun hfit hgl => ?_)
      repeat' (first | refine go ?_ | (refine br (fun hc => ?_) (fun hc => ?_) <;> try (exfalso; omega)) | fail)
      exact .now ⟨rfl, rfl⟩
  · have hfw : ∀ H, Ctr (env n0 w0 gl) 27 [.sl l.length (fldAV l) .ro] H True (.bool false) H := fun H => ⟨fun _ => by
      have := (few_t (n0 := n0) (w0 := w0) (gl := gl) (H := H) l).call trivial
      rwa [tf_false hf] at this⟩
    refine enter (md := fun _ => 0) Tryd.func8 (fun hfit hgl => ?_)
    repeat' (first | refine go ?_ | (refine br (fun hc => ?_) (fun hc => ?_) <;> try (exfalso; omega)) | fail)
    exact .now ⟨rfl, rfl⟩

theorem ACall.ro {E : Env} {f : FuncId} {n : Nat} {xs : List AV} {tok : Tok} {rest : List AV} {R : AE → List AO → Prop} (h : ACall E f (.sl n xs .ro :: rest) H R) : ACall E f (.sl n xs tok :: rest) H R := by
  intro g w cs hr hv
  refine h g w cs hr ⟨hv.1, fun i => ?_⟩
  match i with
  | 0 =>
    have := hv.2 0
    simp only [List.getD_cons_zero] at this ⊢
    generalize cs.getD 0 undef = c at this
    cases this with
    | nsl t h => exact .nsl _ trivial
    | sl n xs tok b o cap vs hn hk hx ht => exact .sl n xs _ b o cap vs hn hk hx trivial
  | i + 1 => exact hv.2 (i + 1)

theorem headCuts_t [hml : GLInt gl 0] (b : List UInt8) (hl : b.length ≤ 9223372036854775807) : AEnter (env n0 w0 gl) 7 [.sl b.length (bytesAV b) .ro] H (fun y H' => y = .ret (.bool true) ∧ H' = H) := by
  rcases hpb : headP b with ⟨l, u, e⟩
  have hbd := headP_bounds hpb
  have hs : ∀ H tok tok2, Ctr (env n0 w0 gl) 26 [.sl l.length (fldAV l) tok, .sl l.length (fldAV l) tok2] H True (.bool true) H := fun H tok tok2 => ⟨fun _ => by
    have := (same_t (n0 := n0) (w0 := w0) (gl := gl) (H := H) l l tok tok2).call (by omega)
    rwa [tf_true rfl] at this⟩
  have hp (hb : b.length < 4294967281) : ∀ H, Ctr (env n0 w0 gl) 24 [.sl b.length (bytesAV b) .ro] H True (.tup [.sl l.length (fldAV l) (tokP e), .int .i64 u, .int .i64 e]) H := fun H => ⟨fun _ => by
    have := (parse_head_t (n0 := n0) (w0 := w0) (gl := gl) (H := H) b).call hb
    rw [hpb] at this
    exact this⟩
  refine enter (md := fun _ => 0) Tryd.func7 (fun hfit hgl => ?_)
  by_cases hb : b.length < 4294967281
  · have hp' := hp hb
    have hh := hbd.2.1
    by_cases he : e = 0
    · subst he
      have hcut := headP_cut (b := b) (by rw [hpb])
      rw [hpb] at hcut
      simp only at hcut
      have hp3 : ∀ H tok, Ctr (env n0 w0 gl) 24 [.sl (u - 0) (List.take u (bytesAV b)) tok] H True (.tup [.sl l.length (fldAV l) (tokP 0), .int .i64 u, .int .i64 0]) H := fun H tok => ⟨fun _ => by
        have h := (parse_head_t (n0 := n0) (w0 := w0) (gl := gl) (H := H) (b.take u)).call (by rw [List.length_take]; omega)
        have h1 : (b.take u).length = u - 0 := by rw [List.length_take]; omega
        have h2 : bytesAV (b.take u) = List.take u (bytesAV b) := by simp [bytesAV]
        rw [hcut, h1, h2] at h
        exact ACall.ro h⟩
      repeat' (first | refine go ?_ | (refine br (fun hc => ?_) (fun hc => ?_) <;> try (exfalso; omega)) | fail)
      all_goals exact .now ⟨rfl, rfl⟩
    · obtain ⟨rfl, rfl⟩ := hbd.2.2 he
      repeat' (first | refine go ?_ | (refine br (fun hc => ?_) (fun hc => ?_) <;> try (exfalso; omega)) | fail)
      all_goals exact .now ⟨rfl, rfl⟩
  · repeat' (first | refine go ?_ | (refine br (fun hc => ?_) (fun hc => ?_) <;> try (exfalso; omega)) | fail)
    exact .now ⟨rfl, rfl⟩

theorem headBack_t [hml : GLInt gl 0] (l : Flds) (more : List UInt8) (hm : more.length ≤ 9223372036854775807) : AEnter (env n0 w0 gl) 9 [.sl l.length (fldAV l) .ro, .sl more.length (bytesAV more) .ro] H (fun y H' => y = .ret (.bool true) ∧ H' = H) := by
  by_cases hf : FewOk l
  · have hfw : ∀ H, Ctr (env n0 w0 gl) 27 [.sl l.length (fldAV l) .ro] H True (.bool true) H := fun H => ⟨fun _ => by
      have := (few_t (n0 := n0) (w0 := w0) (gl := gl) (H := H) l).call trivial
      rwa [tf_true hf] at this⟩
    rcases hsh : showR l with s | e
    · have h1 : ∀ H, Ctr (env n0 w0 gl) 28 [.sl l.length (fldAV l) .ro] H True (.tup [.sl s.length (bytesAV s) .ro, .int .i64 0]) H := fun H => ⟨fun _ => by
        have := (show_t (n0 := n0) (w0 := w0) (gl := gl) (H := H) l).call (few_bounds hf)
        rw [hsh] at this; exact this⟩
      have hsl : s.length ≤ 100000 := by
        unfold showR at hsh
        split at hsh
        · split at hsh
          · rename_i h3; injection hsh with hsh; subst hsh; simp only [List.length_append, List.length_cons, List.length_nil]; omega
          · simp at hsh
        · simp at hsh
      have hs : ∀ H tok tok2, Ctr (env n0 w0 gl) 26 [.sl l.length (fldAV l) tok, .sl l.length (fldAV l) tok2] H True (.bool true) H := fun H tok tok2 => ⟨fun _ => by
        have := (same_t (n0 := n0) (w0 := w0) (gl := gl) (H := H) l l tok tok2).call (few_bounds hf).1
        rwa [tf_true rfl] at this⟩
      refine enter (md := fun _ => 0) Tryd.func9 (fun hfit hgl => ?_)
      by_cases hm5 : more.length ≤ 500
      · have hp3 : ∀ H tok, Ctr (env n0 w0 gl) 24 [.sl (s.length + more.length) (bytesAV s ++ bytesAV more) tok] H True (.tup [.sl l.length (fldAV l) (tokP 0), .int .i64 s.length, .int .i64 0]) H := fun H tok => ⟨fun _ => by
          have h := (parse_head_t (n0 := n0) (w0 := w0) (gl := gl) (H := H) (s ++ more)).call (by rw [List.length_append]; omega)
          have h1 : (s ++ more).length = s.length + more.length := List.length_append
          have h2 : bytesAV (s ++ more) = bytesAV s ++ bytesAV more := by simp [bytesAV]
          rw [headP_show more hsh, h1, h2] at h
          exact ACall.ro h⟩
        have hh := And.intro (show s.length ≤ 140737488355328 by omega) (show s.length + more.length ≤ 140737488355328 by omega)
        repeat' (first | refine go ?_ | (refine br (fun hc => ?_) (fun hc => ?_) <;> try (exfalso; omega)) | fail)
        exact .junkd ⟨rfl, rfl⟩
      · repeat' (first | refine go ?_ | (refine br (fun hc => ?_) (fun hc => ?_) <;> try (exfalso; omega)) | fail)
        all_goals exact .now ⟨rfl, rfl⟩
    · have h1 : ∀ H, Ctr (env n0 w0 gl) 28 [.sl l.length (fldAV l) .ro] H True (.tup [.sl 0 [] .full, .int .i64 e]) H := fun H => ⟨fun _ => by
        have := (show_t (n0 := n0) (w0 := w0) (gl := gl) (H := H) l).call (few_bounds hf)
        rw [hsh] at this; exact this⟩
      have he := showR_e hsh
      refine enter (md := fun _ => 0) Tryd.func9 (fun hfit hgl => ?_)
      repeat' (first | refine go ?_ | (refine br (fun hc => ?_) (fun hc => ?_) <;> try (exfalso; omega)) | fail)
      all_goals exact .now ⟨rfl, rfl⟩
  · have hfw : ∀ H, Ctr (env n0 w0 gl) 27 [.sl l.length (fldAV l) .ro] H True (.bool false) H := fun H => ⟨fun _ => by
      have := (few_t (n0 := n0) (w0 := w0) (gl := gl) (H := H) l).call trivial
      rwa [tf_false hf] at this⟩
    refine enter (md := fun _ => 0) Tryd.func9 (fun hfit hgl => ?_)
    repeat' (first | refine go ?_ | (refine br (fun hc => ?_) (fun hc => ?_) <;> try (exfalso; omega)) | fail)
    exact .now ⟨rfl, rfl⟩

theorem lowB_idem (c : UInt8) : lowB (lowB c) = lowB c := by
  unfold lowB
  by_cases h : 65 ≤ c.toNat ∧ c.toNat ≤ 90
  · rw [if_pos h]
    have : (c + 32).toNat = c.toNat + 32 := by
      rw [UInt8.toNat_add]; show (c.toNat + 32) % 256 = _; omega
    rw [if_neg (by omega)]
  · rw [if_neg h, if_neg h]

theorem headGets_t [hml : GLInt gl 0] (l : Flds) (nm : List UInt8) (hn : nm.length ≤ 9223372036854775807) : AEnter (env n0 w0 gl) 10 [.sl l.length (fldAV l) .ro, .str nm] H (fun y H' => y = .ret (.bool true) ∧ H' = H) := by
  by_cases hf : FewOk l
  · have hfw : ∀ H, Ctr (env n0 w0 gl) 27 [.sl l.length (fldAV l) .ro] H True (.bool true) H := fun H => ⟨fun _ => by
      have := (few_t (n0 := n0) (w0 := w0) (gl := gl) (H := H) l).call trivial
      rwa [tf_true hf] at this⟩
    have hB : Bounded l := ⟨(few_bounds hf).1, fun i hi => by have := hf.2 i hi; omega⟩
    have hcl : ∀ H, Ctr (env n0 w0 gl) 32 [.sl l.length (fldAV l) .ro, .str (nm.map lowB)] H True (.int .i64 (bodies (nm.map lowB) l).length) H := fun H => ⟨fun _ => by
      have := (count_t (n0 := n0) (w0 := w0) (gl := gl) (H := H) l (nm.map lowB)).call ⟨hB, by rw [List.length_map]; exact hn⟩
      rw [List.map_map, show lowB ∘ lowB = lowB from funext lowB_idem] at this
      exact this⟩
    have hc : ∀ H, Ctr (env n0 w0 gl) 32 [.sl l.length (fldAV l) .ro, .str nm] H True (.int .i64 (bodies (nm.map lowB) l).length) H := fun H => ⟨fun _ => (count_t (n0 := n0) (w0 := w0) (gl := gl) (H := H) l nm).call ⟨hB, hn⟩⟩
    have hg : ∀ H, Ctr (env n0 w0 gl) 30 [.sl l.length (fldAV l) .ro, .str nm] H True (.tup [.str ((bodies (nm.map lowB) l).headD []), .bool (decide (0 < (bodies (nm.map lowB) l).length))]) H := fun H => ⟨fun _ => by
      have := (get_t (n0 := n0) (w0 := w0) (gl := gl) (H := H) l nm).call ⟨hB, hn⟩
      cases hb : bodies (nm.map lowB) l with
      | nil => rw [hb] at this; exact this
      | cons x xs => rw [hb] at this; exact this⟩
    have hr : ∀ H, Ctr (env n0 w0 gl) 31 [.sl l.length (fldAV l) .ro, .str nm] H True (.tup [.str ((bodies (nm.map lowB) l).headD []), .int .i64 (bodies (nm.map lowB) l).length]) H := fun H => ⟨fun _ => (ref_get_t (n0 := n0) (w0 := w0) (gl := gl) (H := H) l nm).call ⟨hB, hn⟩⟩
    refine enter (md := fun _ => 0) Tryd.func10 (fun hfit hgl => ?_)
    generalize (bodies (nm.map lowB) l).headD [] = x at *
    generalize (bodies (nm.map lowB) l).length = k at *
    repeat' (first | refine go ?_ | (refine br (fun hc => ?_) (fun hc => ?_) <;> try (exfalso; omega)) | fail)
    · exact .now ⟨rfl, rfl⟩
    · exact .now ⟨rfl, rfl⟩
    · exact absurd (by rw [decide_eq_decide]; omega) hc
  · have hfw : ∀ H, Ctr (env n0 w0 gl) 27 [.sl l.length (fldAV l) .ro] H True (.bool false) H := fun H => ⟨fun _ => by
      have := (few_t (n0 := n0) (w0 := w0) (gl := gl) (H := H) l).call trivial
      rwa [tf_false hf] at this⟩
    refine enter (md := fun _ => 0) Tryd.func10 (fun hfit hgl => ?_)
    repeat' (first | refine go ?_ | (refine br (fun hc => ?_) (fun hc => ?_) <;> try (exfalso; omega)) | fail)
    all_goals exact .now ⟨rfl, rfl⟩

end Go.Ab.Tryd

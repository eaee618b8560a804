/- Plain: what may stand in mailboxes and domains; what is not trimmed. -/
import Derived.Test.YtadghefkbjacjaaGreatDoorSPath
import Derived.Lib.SlTrimSet
import Derived.Test.YtadghefkbjacjaaGreatDoorLHeadB
import Derived.Test.YtadghefkbjacjaaGreatDoorLMime1
import Derived.Test.YtadghefkbjacjaaGreatDoorLRefA
import Derived.Test.YtadghefkbjacjaaGreatDoorLJoinA
import Derived.Lib.ItoaLen
import Derived.Test.YtadghefkbjacjaaGreatDoorAbTryz
import Derived.Test.YtadghefkbjacjaaGreatDoorFrE
section
set_option linter.unusedVariables false
namespace Go.Ab
open Go

theorem mem_parts (c : UInt8) : ∀ {s : List UInt8} {d : UInt8}, d ∈ s → d = c ∨ ∃ p ∈ parts c s, d ∈ p
  | b :: l, d, h => by
    unfold parts
    by_cases hb : b = c
    · rw [if_pos hb]
      rcases List.mem_cons.1 h with h | h
      · exact .inl (h.trans hb)
      · rcases mem_parts c h with h | ⟨p, hp, hd⟩
        · exact .inl h
        · exact .inr ⟨p, List.mem_cons_of_mem _ hp, hd⟩
    · rw [if_neg hb]
      cases hq : parts c l with
      | nil => exact absurd hq (parts_ne c l)
      | cons q qs =>
        rcases List.mem_cons.1 h with h | h
        · exact .inr ⟨b :: q, by simp, by simp [h]⟩
        · rcases mem_parts c h with h | ⟨p, hp, hd⟩
          · exact .inl h
          · rw [hq] at hp
            rcases List.mem_cons.1 hp with e | hp
            · subst e; exact .inr ⟨b :: p, by simp, by simp [hd]⟩
            · exact .inr ⟨p, by simp [hp], hd⟩

/-- Bytes that are seen. -/
def Seen (s : List UInt8) : Prop := ∀ c ∈ s, 33 ≤ c.toNat ∧ c.toNat ≤ 126
theorem kind_seen {c : UInt8} (h : kindN c ≠ 0) : 33 ≤ c.toNat ∧ c.toNat ≤ 126 := by
  unfold kindN at h
  split at h
  · omega
  · split at h
    · rename_i hm
      have hm := (mem_indexByte _ _).1 hm
      simp only [marks, List.mem_cons, List.not_mem_nil, or_false] at hm
      rcases hm with rfl | rfl | rfl | rfl | rfl | rfl | rfl | rfl | rfl | rfl | rfl | rfl | rfl | rfl | rfl | rfl | rfl | rfl | rfl <;> decide
    · exact absurd rfl h
theorem domain_seen {s : List UInt8} (h : DomainOk s) : Seen s := fun c hc => by
  rcases mem_parts 46 hc with rfl | ⟨p, hp, hd⟩
  · decide
  · obtain ⟨i, hi, rfl⟩ := List.getElem_of_mem hd
    have := (h.1 p hp).2.2.2.2 i hi
    rw [List.getD_eq_getElem?_getD, List.getElem?_eq_getElem hi] at this
    rcases this with h | h
    · exact kind_seen (by simp only [Option.getD_some] at h; rw [h]; decide)
    · simp only [Option.getD_some] at h; omega
theorem lastAt_get {c : UInt8} {s : List UInt8} : ∀ {n k : Nat}, lastAt c s n = (k : Int) → s.getD k 0 = c
  | 0, k, h => by simp [lastAt] at h
  | n + 1, k, h => by
    unfold lastAt at h
    split at h
    · rename_i h2; have : n = k := by omega
      subst this; exact h2
    · exact lastAt_get h
theorem mailbox_seen {s : List UInt8} (h : MailboxOk s) : Seen s := by
  obtain ⟨k, h1, h2, h3, h4, h5⟩ := h
  have hk := lastAt_get h1
  have hlt : k < s.length := by
    rcases Nat.lt_or_ge k s.length with h | h
    · exact h
    · rw [List.getD_eq_getElem?_getD, List.getElem?_eq_none h] at hk; simp at hk
  intro c hc
  have e : s = s.take k ++ s.getD k 0 :: s.drop (k + 1) := by
    conv => lhs; rw [← List.take_append_drop k s]
    rw [List.drop_eq_getElem_cons hlt]; simp [List.getD_eq_getElem?_getD, hlt]
  rw [e, List.mem_append, List.mem_cons, hk] at hc
  rcases hc with hc | rfl | hc
  · rcases mem_parts 46 hc with rfl | ⟨p, hp, hd⟩
    · decide
    · obtain ⟨i, hi, rfl⟩ := List.getElem_of_mem hd
      have := (h5 p hp).1 i hi
      rw [List.getD_eq_getElem?_getD, List.getElem?_eq_getElem hi] at this
      exact kind_seen this
  · decide
  · exact domain_seen h4 c hc

theorem trim_seen {s cs : List UInt8} (h : ∀ c ∈ s, cs.contains c = false) : Lib.trimS s cs = s := by
  have h1 : Lib.trimRightS s cs = s := by
    have := Lib.trimRightS_take s cs s.length (Nat.le_refl _) (fun j b hj hb => by rw [List.getElem?_eq_none hj] at hb; simp at hb) (fun b h0 hb => h b (List.mem_of_getElem? hb))
    rwa [List.take_length] at this
  unfold Lib.trimS
  rw [h1]
  have := Lib.trimLeftS_drop s cs 0 (Nat.zero_le _) (fun j b hj => absurd hj (Nat.not_lt_zero _)) (fun b hb => h b (List.mem_of_getElem? hb))
  rwa [List.drop_zero] at this
theorem trim_of_seen {s : List UInt8} (h : Seen s) : Lib.trimS s [32, 9] = s := trim_seen fun c hc => by
  have := h c hc
  simp only [List.contains_cons, List.contains_nil, Bool.or_false, Bool.or_eq_false_iff, beq_eq_false_iff_ne]
  exact ⟨fun e => by subst e; exact absurd this.1 (by decide), fun e => by subst e; exact absurd this.1 (by decide)⟩
theorem index_of_seen {s : List UInt8} (h : Seen s) (c : UInt8) (hc : c.toNat < 33) : Lib.indexByte s c < 0 := by
  rcases Int.lt_or_le (Lib.indexByte s c) 0 with h2 | h2
  · exact h2
  · have := h c ((mem_indexByte s c).1 h2); omega
theorem seen_app {a b : List UInt8} (h : Seen a) (k : Seen b) : Seen (a ++ b) := fun c hc => (List.mem_append.1 hc).elim (h c) (k c)

end Go.Ab

end

section
set_option linter.unusedSimpArgs false
set_option linter.unusedVariables false
set_option maxHeartbeats 4000000
set_option maxRecDepth 4000
namespace Go.Ab.Tryz
open Go Go.Ab Go.Proofs
attribute [local irreducible] W Wl Wop TrA WSeq WLoopS FPost DPost RPost WRound DK onEnd
variable {n0 : Nat} {w0 : World} {gl : Nat → List AV} {H : List AO}
attribute [local simp] belowL_bytesAV

theorem join_flat (xs : List (List UInt8)) : Lib.join xs [] = xs.flatten := by
  cases xs with
  | nil => rfl
  | cons x r =>
    rw [Lib.join_cons]
    have : r.map (fun y => ([] : List UInt8) ++ y) = r := by
      conv => rhs; rw [← List.map_id r]
      rfl
    rw [Lib.joinTail, this]; rfl
instance join_t (xs : List (List UInt8)) (n : Nat) (tok : Tok) : Ctr (env n0 w0 gl) 170 [.sl n (xs.map .str) tok, .str []] H (xs.length = n ∧ 0 < n ∧ n ≤ 1000000000 ∧ xs.flatten.length ≤ 140737488355328) (.str xs.flatten) H := .of fun ⟨hn, h0, hn2, hl⟩ =>
  AEnter.of_calls (fn := Tryz.f170) Tryz.func170 rfl rfl fun g w cs hr hv => by
    obtain ⟨c, d, rfl, h1, h2⟩ := rels2 hv
    have h3 := h2.str_inv
    subst h3
    obtain ⟨b, o, cap, rfl, hc, hlt, hcell⟩ := sl_strs hr h1 hn h0
    have hm : (xs.map fun x => (⟨x.toArray⟩ : ByteArray)).map (·.data.toList) = xs := by
      rw [List.map_map]
      conv => rhs; rw [← List.map_id xs]
      exact List.map_congr_left fun x _ => by simp
    have key := Tryz.strings_Join b o cap (xs.map fun x => (⟨x.toArray⟩ : ByteArray)) ⟨#[]⟩ w (fun j x hj => by
      rw [List.getElem?_map] at hj
      cases hx : xs[j]? with
      | none => rw [hx] at hj; simp at hj
      | some y => rw [hx] at hj; simp only [Option.map_some, Option.some.injEq] at hj; subst hj; exact hcell j y hx) hlt (by rw [List.length_map]; omega) (by rw [List.length_map]; omega) (by rw [hm, join_flat]; exact hl)
    rw [hm, List.length_map, hn, join_flat] at key
    refine key.mono ?_
    rintro e w' ⟨rfl, hb⟩
    exact econc_ret hr hb (.str _ _ rfl)

instance joined_t (xs : List (List UInt8)) (n : Nat) (tok : Tok) : Ctr (env n0 w0 gl) 94 [.sl n (xs.map .str) tok] H (xs.length = n ∧ 0 < n ∧ n ≤ 1000000000 ∧ xs.flatten.length ≤ 1000000000) (.sl xs.flatten.length (bytesAV xs.flatten) .ro) H := .of fun ⟨hn, h0, hn2, hl⟩ => by
  refine enter (md := fun _ => 0) Tryz.func94 (fun hfit hgl => ?_)
  repeat' (first | refine go ?_ | (refine br (fun hc => ?_) (fun hc => ?_) <;> try (exfalso; omega)) | fail)
  exact .now ⟨rfl, rfl⟩

/-- A head that is shown, with room behind it. -/
theorem showT_e (l : Flds) (s : List UInt8) (tok : Tok) (hl : l.length ≤ 9223372036854775807) (hb : ∀ i, i < l.length → (l.getD i ([], [])).1.length + (l.getD i ([], [])).2.length ≤ 1000000) (hq : showR l = .inl s) :
    AEnter (env n0 w0 gl) 93 [.sl l.length (fldAV l) .ro] H (fun y H' => y = .ret (.tup [.sl s.length (bytesAV s) (.at (H.length + 4) s.length), .int .i64 0]) ∧ H' = H ++ [.cells [.sl l.length (fldAV l) .ro], .cells [.sl s.length (bytesAV s) (.at (H.length + 4) s.length)], .cells [.int .i64 0], .dead, .tail 1 s.length]) := by
  have hp := show1_t (n0 := n0) (w0 := w0) (gl := gl) (H := H) l hl hb
  refine enter (md := fun _ => 0) Tryz.func93 (fun hfit hgl => ?_)
  repeat' (first | refine go ?_ | (refine br (fun hc => ?_) (fun hc => ?_) <;> try (exfalso; omega)) | fail)
  ((with_reducible apply wop_call); (· rfl); (· rfl); (· (simp only [AAct.ev, List.getD_cons_zero, List.getD_cons_succ, constAV, env_gl]; try exact rfl)); (· (simp only [evCallArgs, List.map_cons, List.map_nil, List.nil_append, List.append_nil, List.cons_append, Array.toList, List.toList_toArray, AAct.ev, List.getD_cons_zero, List.getD_cons_succ, constAV, env_gl]; try exact rfl)))
  rw [hq] at hp
  refine (head_caught_t (R := fun x H' => x = .ret (.int .i64 0) ∧ H' = H ++ [.cells [.sl l.length (fldAV l) .ro], .cells [.vsl (H.length + 3) s.length], .cells [.int .i64 0], .vec 1 s.length (bytesAV s)]) _ [] _ fun hf2 => ?_).call.mono ?_
  · simp only [List.append_assoc, List.cons_append, List.nil_append]
    refine hp.call.mono ?_
    rintro x H' ⟨rfl, rfl⟩
    exact ⟨by simp, .inl ⟨rfl, .now ⟨rfl, by simp⟩⟩⟩
  · rintro x H' ⟨rfl, rfl⟩
    refine gos ?_
    refine wseq_shift (Shift.cellTail (H.length + 1) 0 (H.length + 3) (xs := [.vsl (H.length + 3) s.length]) (sz := 1) (n := s.length) (ys := bytesAV s) (by simp [getE]) rfl (by simp) (by simp [getE]) rfl) ?_
    simp only [getE, setE, List.set_cons_succ, List.set_cons_zero, List.append_assoc, List.cons_append, List.nil_append, List.length_append, List.length_cons, List.length_nil, Nat.zero_add, Nat.reduceAdd]
    repeat' (first | refine go ?_ | (refine br (fun hc => ?_) (fun hc => ?_) <;> try (exfalso; omega)) | fail)
    exact .now ⟨rfl, rfl⟩

end Go.Ab.Tryz

end

section
set_option linter.unusedSimpArgs false
set_option linter.unusedVariables false
namespace Go.Ab
section
variable {E : Env} {N : Nat} {ts : List AV} {ds : List ADef} {H : List AO}
open Go Go.RowKit
/-- Cells seen less closely. -/
theorem Shift.cells (i : Nat) {xs ys : List AV} (hH : H[i]? = some (.cells xs)) (hl : ys.length = xs.length) (hv : ∀ g k c, VRel g (xs.getD k .top) c → VRel g (ys.getD k .top) c) : Shift E N ts ds H ts (H.set i (.cells ys)) :=
  fun g0 g w a' hd hl2 hr ha => ⟨g, hl2, Rep.recells hr hH hl (fun b cs T fz _ _ h k => hv _ _ _ (h k)), ha⟩
end
end Go.Ab
namespace Go.Ab.Tryz
open Go Go.Ab Go.Proofs
/-- A round's end; what lies behind is let go. -/
theorem againJ {E : Env} {N : Nat} {Q : APost} {ts : List AV} {ds : List ADef} {H : List AO} {ι : Type} {st : ι → List AV} {Hs : ι → List AO} {inv : ι → Prop} {μ : ι → Nat} {i : ι} (j : ι) (h1 : inv j) (h2 : μ j < μ i) (l : List AO) (h3 : H = Hs j ++ l) (h4 : Shift E N ts ds (Hs j ++ l) (st j) (Hs j) := by exact Shift.auto) : WLoopS E N st ds Hs inv μ i Q .normal ⟨ts, ds⟩ H := by
  subst h3; exact wloopS_normal j h1 h2 h4

theorem tupW {g : Ghost} {xs ys : List AV} {c : Value} (hl : ys.length = xs.length) (h : ∀ i c, VRel g (xs.getD i .top) c → VRel g (ys.getD i .top) c) (r : VRel g (.tup xs) c) : VRel g (.tup ys) c := by
  cases r with
  | tup _ cs h1 h2 => exact .tup _ _ (h1.trans hl.symm) (fun i => h i _ (h2 i))
theorem belowL_strsM (n : Nat) : ∀ l : List (List UInt8), belowL n (l.map .str) = true
  | [] => rfl
  | x :: l => by simp [belowL, AV.within, belowL_strsM n l]
theorem belowL_appM (n : Nat) : ∀ xs ys : List AV, belowL n (xs ++ ys) = (belowL n xs && belowL n ys)
  | [], ys => by simp [belowL]
  | x :: xs, ys => by simp only [List.cons_append, belowL, belowL_appM n xs ys, Bool.and_assoc]

/-- A list of texts that grows; what stands behind it. -/
def rcV (l : List (List UInt8)) (id : Nat) : AV := match l with
  | [] => .sl 0 [] .full
  | x :: l => .sl (x :: l).length ((x :: l).map .str) (.at id (x :: l).length)
def rcT (l : List (List UInt8)) : List AO := match l with
  | [] => []
  | x :: l => [.tail 1 (x :: l).length]
theorem rcV_ro {g : Ghost} {l : List (List UInt8)} {id : Nat} {c : Value} (h : VRel g (rcV l id) c) : VRel g (.sl l.length (l.map .str) .ro) c := by
  cases l with
  | nil => exact sl_ro g c h
  | cons x l => exact sl_ro g c h

end Go.Ab.Tryz

end

section
set_option linter.unusedSimpArgs false
set_option linter.unusedVariables false
set_option maxHeartbeats 4000000
set_option maxRecDepth 4000
namespace Go.Ab.Tryz
open Go Go.Ab Go.Proofs
attribute [local irreducible] W Wl Wop TrA WSeq WLoopS FPost DPost RPost WRound DK onEnd
variable {n0 : Nat} {w0 : World} {gl : Nat → List AV} {H : List AO}
attribute [local simp] belowL_bytesAV belowL_fldAV belowL_strsM

/-- A message's way to one receiver. -/
structure JobA where
  id : Int
  rcpt : List UInt8
  state : Int
  tries : Int
  next : Int
  code : Int
def JobA.cells (x : JobA) : List AV := [.int .i64 x.id, .str x.rcpt, .int .i64 x.state, .int .i64 x.tries, .int .i64 x.next, .int .i64 x.code]
def jobAV (l : List JobA) : List AV := l.flatMap JobA.cells
instance : Inhabited JobA := ⟨⟨0, [], 0, 0, 0, 0⟩⟩
/-- Whether it is told; what is told. -/
def JobA.Told (x : JobA) : Prop := x.state = 3 ∧ MailboxOk x.rcpt
def JobA.Big (x : JobA) : Prop := x.rcpt.length ≤ 9223372036854775807 ∧ -9223372036854775808 ≤ x.code ∧ x.code ≤ 9223372036854775807
noncomputable def JobA.told (x : JobA) : List UInt8 := if tf x.Told then x.rcpt ++ (32 :: (Lib.itoa x.code ++ [13, 10])) else []
noncomputable def toldS (l : List JobA) : List UInt8 := l.flatMap JobA.told
theorem jobAV_len (l : List JobA) : (jobAV l).length = l.length * 6 := by
  induction l with
  | nil => rfl
  | cons f l ih => simp only [jobAV, List.flatMap_cons, List.length_append, JobA.cells, List.length_cons, List.length_nil] at ih ⊢; rw [ih]; omega
@[simp] theorem belowL_jobAV (n : Nat) (l : List JobA) : belowL n (jobAV l) = true := by
  induction l with
  | nil => rfl
  | cons f l ih => simpa [jobAV, JobA.cells, belowL, AV.within] using ih
theorem jobAV_drop : ∀ (i : Nat) (l : List JobA), (jobAV l).drop (i * 6) = jobAV (l.drop i)
  | 0, l => rfl
  | i + 1, [] => by simp [jobAV]
  | i + 1, f :: l => by
    rw [show (i + 1) * 6 = i * 6 + 1 + 1 + 1 + 1 + 1 + 1 by omega]
    have := jobAV_drop i l
    simpa [jobAV, JobA.cells] using this
theorem jobAV_at {i : Nat} {l : List JobA} (h : i < l.length) : ((jobAV l).drop (i * 6)).take 6 = (l.getD i default).cells := by
  rw [jobAV_drop, List.drop_eq_getElem_cons h]
  simp only [jobAV, List.flatMap_cons]
  rw [List.take_append_of_le_length (by simp [JobA.cells]), List.take_of_length_le (by simp [JobA.cells])]
  simp [List.getD_eq_getElem?_getD, h]
theorem toldS_take {l : List JobA} {i : Nat} (h : i < l.length) : toldS (l.take (i + 1)) = toldS (l.take i) ++ (l.getD i default).told := by
  unfold toldS
  rw [List.take_succ_eq_append_getElem h, List.flatMap_append]
  simp [List.getD_eq_getElem?_getD, h]
theorem mailbox_le {s : List UInt8} (h : MailboxOk s) : s.length ≤ 320 := by
  obtain ⟨k, _, _, h3, ⟨_, h4⟩, _⟩ := h
  rw [List.length_drop] at h4; omega
theorem told_len {x : JobA} (hb : x.Big) : x.told.length ≤ 1024 := by
  have h1 := Lib.itoa_length_le x.code hb.2.1 hb.2.2
  by_cases ht : x.Told
  · have h := mailbox_le ht.2
    unfold JobA.told
    rw [tf_true ht]
    simp only [if_true, List.length_append, List.length_cons, List.length_nil]; omega
  · unfold JobA.told
    rw [tf_false ht]; simp
theorem toldS_len : ∀ {l : List JobA}, (∀ x ∈ l, x.Big ∧ x.rcpt.length ≤ 100000) → (toldS l).length ≤ l.length * 1024
  | [], _ => by simp [toldS]
  | x :: l, h => by
    have := toldS_len (l := l) (fun y hy => h y (by simp [hy]))
    have h2 := told_len (h x (by simp)).1
    simp only [toldS, List.flatMap_cons, List.length_append, List.length_cons] at *
    omega

/-- The fields of what a sender is told. -/
def mailer : List UInt8 := [109, 97, 105, 108, 101, 114, 45, 100, 97, 101, 109, 111, 110, 64]
def bncF (host fro : List UInt8) : Flds := [([70, 114, 111, 109], 109 :: 97 :: 105 :: 108 :: 101 :: 114 :: 45 :: 100 :: 97 :: 101 :: 109 :: 111 :: 110 :: 64 :: host), ([84, 111], fro), ([83, 117, 98, 106, 101, 99, 116], [117, 110, 100, 101, 108, 105, 118, 101, 114, 101, 100])]
def bncH (host fro : List UInt8) : List UInt8 := showL (bncF host fro) ++ [13, 10]
theorem domain_le {s : List UInt8} (h : DomainOk s) : s.length ≤ 255 := h.2
theorem nameOk_of {s : List UInt8} (h : ∀ c ∈ s, nameB c) (h0 : s.length ≠ 0) (h1 : s.length ≤ 100) : NameOk s := ⟨fun i hi => by
  rw [List.getD_eq_getElem?_getD, List.getElem?_eq_getElem hi]; exact h _ (List.getElem_mem _), h0, h1⟩
theorem fld_of {n b : List UInt8} (h : NameOk n) (hb : Seen b) : FldOk (n, b) := ⟨h, index_of_seen hb 13 (by decide), index_of_seen hb 10 (by decide), trim_of_seen hb⟩
theorem show_bnc {host fro : List UInt8} (h1 : DomainOk host) (h2 : MailboxOk fro) : showR (bncF host fro) = .inl (bncH host fro) := by
  have hd := domain_le h1
  have hm := mailbox_le h2
  have hsd := domain_seen h1
  have hsm := mailbox_seen h2
  have nm : ∀ s : List UInt8, (∀ c ∈ s, nameB c) → s.length ≠ 0 → s.length ≤ 100 → NameOk s := fun s => nameOk_of
  have hall : ∀ i, i < (bncF host fro).length → FldOk ((bncF host fro).getD i ([], [])) := by
    intro i hi
    have hi3 : i < 3 := hi
    match i, hi3 with
    | 0, _ =>
      refine fld_of (nm _ (by intro c hc; simp only [List.mem_cons, List.not_mem_nil, or_false] at hc; rcases hc with rfl | rfl | rfl | rfl <;> (unfold nameB; decide)) (by decide) (by decide)) ?_
      have : Seen (mailer ++ host) := seen_app (by intro c hc; simp only [mailer, List.mem_cons, List.not_mem_nil, or_false] at hc; rcases hc with rfl | rfl | rfl | rfl | rfl | rfl | rfl | rfl | rfl | rfl | rfl | rfl | rfl | rfl <;> decide) hsd
      exact this
    | 1, _ => exact fld_of (nm _ (by intro c hc; simp only [List.mem_cons, List.not_mem_nil, or_false] at hc; rcases hc with rfl | rfl <;> (unfold nameB; decide)) (by decide) (by decide)) hsm
    | 2, _ =>
      refine fld_of (nm _ (by intro c hc; simp only [List.mem_cons, List.not_mem_nil, or_false] at hc; rcases hc with rfl | rfl | rfl | rfl | rfl | rfl | rfl <;> (unfold nameB; decide)) (by decide) (by decide)) ?_
      intro c hc; simp only [List.mem_cons, List.not_mem_nil, or_false] at hc; rcases hc with rfl | rfl | rfl | rfl | rfl | rfl | rfl | rfl | rfl | rfl | rfl <;> decide
  have hlen : (showL (bncF host fro)).length ≤ 99998 := by simp [showL, showF, bncF]; omega
  unfold showR
  rw [tf_true hall, if_pos rfl, if_pos ⟨by show 3 ≤ 1000; decide, hlen⟩]; rfl
theorem bncH_len {host fro : List UInt8} (h1 : DomainOk host) (h2 : MailboxOk fro) : (bncH host fro).length ≤ 1000 := by
  have hd := domain_le h1
  have hm := mailbox_le h2
  simp [bncH, showL, showF, bncF]; omega

/-- Whether a sender is to be told. -/
def MakeOk (host : List UInt8) (now : Int) (fro : List UInt8) : Prop := MailboxOk fro ∧ DomainOk host ∧ 0 ≤ now
noncomputable def makeV (host : List UInt8) (now : Int) (fro : List UInt8) (l : List JobA) : AV := if tf (MakeOk host now fro ∧ toldS l ≠ []) then .tup [.agg [.str [], .sl 1 [.str fro] .full, .int .i64 now], .sl (bncH host fro ++ toldS l).length (bytesAV (bncH host fro ++ toldS l)) .ro, .bool true] else .tup [.agg [.str [], .sl 0 [] .full, .int .i64 0], .sl 0 [] .full, .bool false]

theorem make_e [ht : Tab10 n0 w0] (host : List UInt8) (now : Int) (fro : List UInt8) (to : List (List UInt8)) (a : Int) (l : List JobA) (h1 : host.length ≤ 9223372036854775807) (h2 : fro.length ≤ 9223372036854775807) (hl : l.length ≤ 100000) (hj : ∀ x ∈ l, x.Big ∧ x.rcpt.length ≤ 100000) :
    AEnter (env n0 w0 gl) 38 [.str host, .int .i64 now, .agg [.str fro, .sl to.length (to.map .str) .ro, .int .i64 a], .sl l.length (jobAV l) .ro] H (fun y H' => y = .ret (makeV host now fro l) ∧ H' = H) := by
  have hbad : ¬ (MakeOk host now fro ∧ toldS l ≠ []) → makeV host now fro l = .tup [.agg [.str [], .sl 0 [] .full, .int .i64 0], .sl 0 [] .full, .bool false] := fun h => by unfold makeV; rw [tf_false h]; rfl
  by_cases hok : MakeOk host now fro
  · obtain ⟨g1, g2, g3⟩ := hok
    have hsh : ∀ H tok, Ctr (env n0 w0 gl) 93 [.sl 3 [.str [70, 114, 111, 109], .str (109 :: 97 :: 105 :: 108 :: 101 :: 114 :: 45 :: 100 :: 97 :: 101 :: 109 :: 111 :: 110 :: 64 :: host), .str [84, 111], .str fro, .str [83, 117, 98, 106, 101, 99, 116], .str [117, 110, 100, 101, 108, 105, 118, 101, 114, 101, 100]] tok] H True
        (.tup [.sl (bncH host fro).length (bytesAV (bncH host fro)) (.at (H.length + 4) (bncH host fro).length), .int .i64 0]) (H ++ [.cells [.sl 3 (fldAV (bncF host fro)) .ro], .cells [.sl (bncH host fro).length (bytesAV (bncH host fro)) (.at (H.length + 4) (bncH host fro).length)], .cells [.int .i64 0], .dead, .tail 1 (bncH host fro).length]) := fun H tok => ⟨fun _ => by
      have := (showT_e (n0 := n0) (w0 := w0) (gl := gl) (H := H) (bncF host fro) (bncH host fro) .ro (by show 3 ≤ _; decide) (by
        intro i hi
        have hd := domain_le g2
        have hm := mailbox_le g1
        have hi3 : i < 3 := hi
        match i, hi3 with
        | 0, _ => simp [bncF]; omega
        | 1, _ => simp [bncF]; omega
        | 2, _ => simp [bncF]) (show_bnc g2 g1)).call
      exact fun g w cs hr hv => this g w cs hr ⟨hv.1, fun i => match i with
        | 0 => sl_ro g _ (hv.2 0)
        | i + 1 => .top _⟩⟩
    have hHl := bncH_len g2 g1
    have hd := domain_le g2
    have hm := mailbox_le g1
    have hfl := jobAV_len l
    have hh := And.intro (tf_true g1) (tf_true g2)
    refine enter (md := fun _ => 0) Tryz.func38 (fun hfit hgl => ?_)
    repeat' (first | refine go ?_ | (refine br (fun hc => ?_) (fun hc => ?_) <;> try (exfalso; omega)) | fail)
    refine loop (fun i : Nat => (.str host :: .int .i64 now :: .top :: .sl l.length (jobAV l) .ro :: .top :: .top :: .ref H.length 0 :: .top :: .ref (H.length + 1) 0 :: .sl 0 [] .full :: .bool false :: .sl (bncH host fro ++ toldS (l.take i)).length (bytesAV (bncH host fro ++ toldS (l.take i))) (.at (H.length + 6) (bncH host fro ++ toldS (l.take i)).length) :: .int .i64 0 :: .int .i64 (bncH host fro).length :: .top :: .top :: .top :: .top :: .top :: .top :: .top :: .top :: .top :: .top :: .top :: .top :: .top :: .top :: .top :: .top :: .top :: .top :: .top :: .top :: .top :: .top :: .top :: .top :: .top :: .top :: .top :: .top :: .top :: .top :: .sl l.length (jobAV l) .ro :: .int .i64 l.length :: .int .i64 (i : Int) :: .top :: .top :: .top :: .top :: .top :: .top :: .top :: .top :: .top :: .top :: .top :: .top :: .top :: .top :: .top :: .top :: .top :: .top :: .top :: .top :: .top :: .top :: .top :: .top :: .top :: .top :: .top :: .top :: .top :: .top :: .top :: .top :: .top :: .top :: .top :: .top :: []))
      (fun i => H ++ [.cells [.str fro, .sl to.length (to.map .str) .ro, .int .i64 a], .cells [.str [], .sl 0 [] .full, .int .i64 0], .cells [.sl 3 (fldAV (bncF host fro)) .ro], .cells [.sl (bncH host fro).length (bytesAV (bncH host fro)) (.at (H.length + 6) (bncH host fro).length)], .cells [.int .i64 0], .dead, .tail 1 (bncH host fro ++ toldS (l.take i)).length])
      (fun i => i ≤ l.length) (fun i => l.length - i) 0 (Nat.zero_le _) ?_ (by
        have e : bncH host fro ++ toldS (l.take 0) = bncH host fro := by simp [toldS]
        rw [e]; exact Shift.auto)
    intro i hi
    have htl : (toldS (l.take i)).length ≤ 100000 * 1024 := Nat.le_trans (toldS_len fun x hx => hj x (List.mem_of_mem_take hx)) (Nat.mul_le_mul_right _ (by rw [List.length_take]; omega))
    by_cases hlt : i < l.length
    · have hat := jobAV_at hlt
      have hmem : l.getD i default ∈ l := by rw [List.getD_eq_getElem?_getD, List.getElem?_eq_getElem hlt]; exact List.getElem_mem _
      obtain ⟨hxb, hxl⟩ := hj _ hmem
      have htk := toldS_take hlt
      generalize l.getD i default = x at *
      have htd : x.Told ∨ ¬ x.Told := Classical.em _
      obtain ⟨id, rc, st, tr, nx, co⟩ := x
      obtain ⟨hb1, hb2, hb3⟩ := hxb
      simp only [JobA.cells] at hat
      simp only at hxl hb1 hb2 hb3
      have hit : (Lib.itoa co).length ≤ 21 := Lib.itoa_length_le co hb2 hb3
      rcases htd with htd | htd
      · have ht2 : (JobA.mk id rc st tr nx co).told = rc ++ (32 :: (Lib.itoa co ++ [13, 10])) := by unfold JobA.told; rw [tf_true htd]; rfl
        have hjd : ∀ H tok, Ctr (env n0 w0 gl) 94 [.sl 4 [.str rc, .str [32], .str (Lib.itoa co), .str [13, 10]] tok] H True (.sl (rc ++ (32 :: (Lib.itoa co ++ [13, 10]))).length (bytesAV (rc ++ (32 :: (Lib.itoa co ++ [13, 10])))) .ro) H := fun H tok => ⟨fun _ => by
          have := (joined_t (n0 := n0) (w0 := w0) (gl := gl) (H := H) [rc, [32], Lib.itoa co, [13, 10]] 4 tok).call ⟨rfl, by omega, by omega, by simp; omega⟩
          rw [show [rc, [32], Lib.itoa co, [13, 10]].flatten = rc ++ (32 :: (Lib.itoa co ++ [13, 10])) by simp] at this
          exact this⟩
        obtain ⟨q1, q2⟩ := htd
        simp only at q1 q2
        subst q1
        have hxl2 := mailbox_le q2
        have hrl : (rc ++ (32 :: (Lib.itoa co ++ [13, 10]))).length ≤ 2000 := by simp; omega
        generalize rc ++ (32 :: (Lib.itoa co ++ [13, 10])) = jd at *
        have e1 : (bncH host fro ++ toldS (l.take (i + 1))).length = (bncH host fro ++ toldS (l.take i)).length + jd.length := by rw [htk, ht2]; simp; omega
        have e2 : bytesAV (bncH host fro ++ toldS (l.take (i + 1))) = bytesAV (bncH host fro ++ toldS (l.take i)) ++ bytesAV jd := by rw [htk, ht2, ← bytesAV_append, List.append_assoc]
        have hal : (bncH host fro ++ toldS (l.take i)).length ≤ 1000 + 100000 * 1024 := by rw [List.length_append]; omega
        have hh := And.intro (tf_true q2) (And.intro hfl hat)
        repeat' (first | refine go ?_ | (refine br (fun hc => ?_) (fun hc => ?_) <;> try (exfalso; omega)) | fail)
        have e3 : (bncH host fro).length + ((toldS (l.take i)).length + jd.length) = (bncH host fro ++ toldS (l.take (i + 1))).length := by rw [e1, List.length_append]; omega
        rw [e3, ← e2]
        exact againJ (i + 1) (by omega) (by omega) [.cells [.int .i64 id, .str rc, .int .i64 3, .int .i64 tr, .int .i64 nx, .int .i64 co]] (by simp)
      · have ht2 : (JobA.mk id rc st tr nx co).told = [] := by unfold JobA.told; rw [tf_false htd]; rfl
        have e1 : bncH host fro ++ toldS (l.take (i + 1)) = bncH host fro ++ toldS (l.take i) := by rw [htk, ht2, List.append_nil]
        have e4 : (toldS (l.take (i + 1))).length = (toldS (l.take i)).length := by have := congrArg List.length e1; simpa using this
        by_cases q1 : st = 3
        · have q2 : ¬ MailboxOk rc := fun h => htd ⟨q1, h⟩
          subst q1
          have hh := And.intro (tf_false q2) (And.intro hfl hat)
          repeat' (first | refine go ?_ | (refine br (fun hc => ?_) (fun hc => ?_) <;> try (exfalso; omega)) | fail)
          rw [← e1]
          exact againJ (i + 1) (by omega) (by omega) [.cells [.int .i64 id, .str rc, .int .i64 3, .int .i64 tr, .int .i64 nx, .int .i64 co]] (by simp [e4])
        · have hh := And.intro hfl hat
          repeat' (first | refine go ?_ | (refine br (fun hc => ?_) (fun hc => ?_) <;> try (exfalso; omega)) | fail)
          rw [← e1]
          exact againJ (i + 1) (by omega) (by omega) [.cells [.int .i64 id, .str rc, .int .i64 st, .int .i64 tr, .int .i64 nx, .int .i64 co]] (by simp [e4])
    · obtain rfl : i = l.length := by omega
      rw [List.take_length] at htl ⊢
      have hmk : toldS l ≠ [] → makeV host now fro l = .tup [.agg [.str [], .sl 1 [.str fro] .full, .int .i64 now], .sl (bncH host fro ++ toldS l).length (bytesAV (bncH host fro ++ toldS l)) .ro, .bool true] := fun h => by unfold makeV; rw [tf_true ⟨⟨g1, g2, g3⟩, h⟩]; rfl
      have hlen : (bncH host fro ++ toldS l).length = (bncH host fro).length + (toldS l).length := List.length_append
      repeat' (first | refine go ?_ | (refine br (fun hc => ?_) (fun hc => ?_) <;> try (exfalso; omega)) | fail)
      all_goals first
        | (rw [hbad (fun h => h.2 (List.length_eq_zero_iff.1 (by omega)))]
           exact .junkd ⟨rfl, rfl⟩)
        | (rw [hmk (fun h => by have h9 : (toldS l).length = 0 := (by rw [h]; rfl); omega), ← hlen]
           refine Out.weak (b := .tup [.agg [.str [], .sl 1 [.str fro] .full, .int .i64 now], .sl (bncH host fro ++ toldS l).length (bytesAV (bncH host fro ++ toldS l)) .ro, .bool true]) (fun g c r => tupW (by rfl) (fun i c r => ?_) r) (.junkd ⟨rfl, rfl⟩)
           match i with
           | 0 => exact r
           | 1 => exact sl_ro g _ r
           | 2 => exact r
           | i + 3 => exact .top _)
  · rw [hbad (fun h => hok h.1)]
    by_cases g1 : MailboxOk fro
    · by_cases g2 : DomainOk host
      · have g3 : ¬ 0 ≤ now := fun h => hok ⟨g1, g2, h⟩
        have hh := And.intro (tf_true g1) (tf_true g2)
        refine enter (md := fun _ => 0) Tryz.func38 (fun hfit hgl => ?_)
        repeat' (first | refine go ?_ | (refine br (fun hc => ?_) (fun hc => ?_) <;> try (exfalso; omega)) | fail)
        all_goals exact .junkd ⟨rfl, rfl⟩
      · have hh := And.intro (tf_true g1) (tf_false g2)
        refine enter (md := fun _ => 0) Tryz.func38 (fun hfit hgl => ?_)
        repeat' (first | refine go ?_ | (refine br (fun hc => ?_) (fun hc => ?_) <;> try (exfalso; omega)) | fail)
        all_goals exact .junkd ⟨rfl, rfl⟩
    · have hh := tf_false g1
      refine enter (md := fun _ => 0) Tryz.func38 (fun hfit hgl => ?_)
      repeat' (first | refine go ?_ | (refine br (fun hc => ?_) (fun hc => ?_) <;> try (exfalso; omega)) | fail)
      all_goals exact .junkd ⟨rfl, rfl⟩

end Go.Ab.Tryz

end

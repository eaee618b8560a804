/- The abstract view, part FrD. -/
import Derived.Test.YtocoejhiphcehaaGreatDoorFrC
/- The abstract view, 23: regions whose order is drawn and in which memory changes step by step, or a call panics. -/
set_option linter.unusedVariables false
set_option linter.unusedSimpArgs false
namespace Go.Ab
open Go Go.RowKit

variable {E : Env} {N : Nat} {rd : Option Nat} {md : Nat → Nat} {Q : APost} {a b : AAct} {H H2 : List AO} {g g0 : Ghost} {w : World} {a' : Act}

/-- An operation that goes well in a state that is less, goes well; memory may change. -/
theorem opok_more2 {o : Oper} {v : AV} (hrd : ∀ l, rd = some l → l < N) (h : Wop E rd md o b H (fun a' H' => a' = b.put o.dst v ∧ H' = H2) (QD Q b)) (hf : fgt a.tmps b.tmps) (hdf : a.defers = b.defers) :
    OpOk E N rd o a H (fun a' H' => a' = a.put o.dst v ∧ H' = H2) Q := by
  intro g0 g w a' hd hl hr ha
  have hb : ARel g b a' := ⟨fgt_rels _ _ hf _ ha.1, hdf ▸ ha.2⟩
  have hlen : a.tmps.length = b.tmps.length := by rw [← ha.1.1, hb.1.1]
  have := wop_sound (N := H.length) h g g w a' hr.dom (GLe.refl g) hr hb
  have hrho : fenceOf g rd = fenceOf g0 rd := by unfold fenceOf; rw [rho_eq hl hd hrd]
  rw [hrho] at this
  refine wpIn_frame this ?_ ?_ ?_ ?_
  · rintro c w2 ⟨A, H3, g2, ⟨rfl, rfl⟩, hl2, hr2, ha2⟩
    exact ⟨_, _, g2, ⟨rfl, rfl⟩, hl.trans hl2, hr2, put_rel hlen (ha.mono hl2) ha2⟩
  · rintro d c w2 ⟨A, H3, g2, ⟨rfl, rfl⟩, hl2, hr2, ha2⟩
    have h1 := ha2.2.length
    have h2 := hb.2.length
    rw [AAct.put_defers, Act.put_defers'] at h1
    simp only [List.length_cons] at h1
    omega
  · rintro ch w2 ⟨x, A, H3, g2, hq, hl2, hr2, ha2, hx⟩
    cases hx with
    | panic hp =>
      refine ⟨.panic _, a, H3, g2, ?_, hl.trans hl2, hr2, ha.mono hl2, .panic hp⟩
      have := hq a.tmps hf
      rw [← hdf] at this
      exact this
  · intro h; exact (letsOut_conc h).elim

/-- An operation that only panics. -/
theorem opok_never {o : Oper} (hrd : ∀ l, rd = some l → l < N) (h : Wop E rd md o b H (fun _ _ => False) (QD Q b)) (hf : fgt a.tmps b.tmps) (hdf : a.defers = b.defers) {K : AAct → List AO → Prop} : OpOk E N rd o a H K Q := by
  intro g0 g w a' hd hl hr ha
  have hb : ARel g b a' := ⟨fgt_rels _ _ hf _ ha.1, hdf ▸ ha.2⟩
  have := wop_sound (N := H.length) h g g w a' hr.dom (GLe.refl g) hr hb
  have hrho : fenceOf g rd = fenceOf g0 rd := by unfold fenceOf; rw [rho_eq hl hd hrd]
  rw [hrho] at this
  refine wpIn_frame this ?_ ?_ ?_ ?_
  · rintro c w2 ⟨A, H3, g2, hh, _⟩; exact hh.elim
  · rintro d c w2 ⟨A, H3, g2, hh, _⟩; exact hh
  · rintro ch w2 ⟨x, A, H3, g2, hq, hl2, hr2, ha2, hx⟩
    cases hx with
    | panic hp =>
      refine ⟨.panic _, a, H3, g2, ?_, hl.trans hl2, hr2, ha.mono hl2, .panic hp⟩
      have := hq a.tmps hf
      rw [← hdf] at this
      exact this
  · intro h; exact (letsOut_conc h).elim

/-- One operation from one memory to another, in the state that is sure. -/
def DOpG (E : Env) (rd : Option Nat) (md : Nat → Nat) (ops : Array Oper) (Q : APost) (o : Oper) (b : AAct) (H : List AO) (v : AV) (H' : List AO) : Prop :=
  match guardOk ops b o with
  | some true => Wop E rd md o b H (fun a' H2 => a' = b.put o.dst v ∧ H2 = H') (QD Q b)
  | some false => v = .tup [] ∧ H' = H
  | none => False
/-- One operation that panics, in the state that is sure. -/
def DOpN (E : Env) (rd : Option Nat) (md : Nat → Nat) (ops : Array Oper) (Q : APost) (o : Oper) (b : AAct) (H : List AO) : Prop :=
  guardOk ops b o = some true ∧ Wop E rd md o b H (fun _ _ => False) (QD Q b)


/-! ### What comes before, near or far -/
def joinL (acc xs : List Nat) : List Nat := xs.foldl (fun acc x => if acc.contains x then acc else x :: acc) acc
def anc1 (T : List (List Nat)) (es : List Nat) : List Nat := es.foldl (fun acc j => joinL (joinL acc [j]) (T.getD j [])) []
def ancT : List Oper → List (List Nat) → List (List Nat)
  | [], T => T
  | o :: l, T => ancT l (T ++ [anc1 T (edgesOf o)])

theorem mem_joinL (x : Nat) : ∀ (xs acc : List Nat), x ∈ joinL acc xs → x ∈ acc ∨ x ∈ xs := by
  intro xs
  induction xs with
  | nil => intro acc h; exact .inl h
  | cons y ys ih =>
    intro acc h
    rcases ih _ h with h1 | h1
    · simp only at h1
      split at h1
      · exact .inl h1
      · rcases List.mem_cons.1 h1 with h2 | h2
        · subst h2; exact .inr (by simp)
        · exact .inl h2
    · exact .inr (by simp [h1])

theorem mem_anc1 (T : List (List Nat)) (x : Nat) (es : List Nat) (h : x ∈ anc1 T es) : x ∈ es ∨ ∃ j ∈ es, x ∈ T.getD j [] := by
  have key : ∀ (es acc : List Nat), x ∈ es.foldl (fun acc j => joinL (joinL acc [j]) (T.getD j [])) acc → x ∈ acc ∨ x ∈ es ∨ ∃ j ∈ es, x ∈ T.getD j [] := by
    intro es
    induction es with
    | nil => intro acc h; exact .inl h
    | cons y ys ih =>
      intro acc h
      rcases ih _ h with h1 | h1 | ⟨j, h1, h2⟩
      · rcases mem_joinL _ _ _ h1 with h2 | h2
        · rcases mem_joinL _ _ _ h2 with h3 | h3
          · exact .inl h3
          · simp at h3; subst h3; exact .inr (.inl (by simp))
        · exact .inr (.inr ⟨y, by simp, h2⟩)
      · exact .inr (.inl (by simp [h1]))
      · exact .inr (.inr ⟨j, by simp [h1], h2⟩)
  rcases key es [] h with h | h
  · simp at h
  · exact h

theorem anc_down {ops : Array Oper} {P : Nat → Prop} (down : ∀ i o, ops[i]? = some o → P i → ∀ j ∈ edgesOf o, P j) : ∀ i o, ops[i]? = some o → (∀ j ∈ edgesOf o, P j) → ∀ j ∈ (ancT ops.toList []).getD i [], P j := by
  have key : ∀ (l : List Oper) (T : List (List Nat)) (k : Nat), T.length = k → (∀ i, ops[k + i]? = l[i]?) → (∀ i o, i < k → ops[i]? = some o → (∀ j ∈ edgesOf o, P j) → ∀ j ∈ T.getD i [], P j) →
      ∀ i o, ops[i]? = some o → (∀ j ∈ edgesOf o, P j) → ∀ j ∈ (ancT l T).getD i [], P j := by
    intro l
    induction l with
    | nil =>
      intro T k hk hl hT i o ho hr j hj
      have hlt : i < k := by
        by_cases h : i < k
        · exact h
        · have := hl (i - k); rw [show k + (i - k) = i by omega, ho] at this; simp at this
      exact hT i o hlt ho hr j hj
    | cons o' l ih =>
      intro T k hk hl hT
      refine ih (T ++ [anc1 T (edgesOf o')]) (k + 1) (by simp [hk]) (fun i => ?_) ?_
      · have := hl (i + 1); rw [show k + 1 + i = k + (i + 1) by omega, this]; rfl
      · intro i o hi ho hr j hj
        by_cases h : i < k
        · rw [List.getD_eq_getElem?_getD, List.getElem?_append_left (by omega), ← List.getD_eq_getElem?_getD] at hj
          exact hT i o h ho hr j hj
        · obtain rfl : i = k := by omega
          have h0 := hl 0
          rw [Nat.add_zero, ho] at h0
          simp at h0; subst h0
          rw [List.getD_eq_getElem?_getD, List.getElem?_append_right (by omega), hk, Nat.sub_self] at hj
          simp only [List.getElem?_cons_zero, Option.getD_some] at hj
          rcases mem_anc1 _ _ _ hj with h1 | ⟨j', h1, h2⟩
          · exact hr j h1
          · by_cases hlt : j' < i
            · cases ho2 : ops[j']? with
              | none =>
                have hi2 := (Array.getElem?_eq_some_iff.1 ho).1
                rw [Array.getElem?_eq_getElem (by omega)] at ho2; simp at ho2
              | some o2 => exact hT j' o2 hlt ho2 (down j' o2 ho2 (hr j' h1)) j h2
            · rw [List.getD_eq_getElem?_getD, List.getElem?_eq_none (by omega)] at h2; simp at h2
  exact key ops.toList [] 0 rfl (fun i => by simp) (fun i o h => by omega)

/-- What an operation is in the plan. -/
inductive Role where
  | pure
  | step (m : Nat)
  | panics (m : Nat)
  | never
  deriving DecidableEq, Inhabited

/-- The plan's build: steps follow one another, what never comes waits for such. -/
def okP (T : List (List Nat)) (n : Nat) (roles : List Role) : Bool :=
  (List.range n).all fun i => match roles.getD i .pure with
    | .pure => true
    | .step m | .panics m => (m == 0 || (T.getD i []).any fun j => roles.getD j .pure == .step (m - 1)) && (List.range n).all fun j => j == i || (match roles.getD j .pure with | .step m' | .panics m' => m' != m | _ => true)
    | .never => (T.getD i []).any fun j => match roles.getD j .pure with | .never | .panics _ => true | _ => false

/-- At which stages an operation that is no step may come. -/
def allowed (T : List (List Nat)) (n : Nat) (roles : List Role) (i k : Nat) : Bool :=
  (List.range n).all fun j => match roles.getD j .pure with
    | .step m => (!(T.getD i []).contains j || decide (m < k)) && (!(T.getD j []).contains i || decide (k ≤ m))
    | _ => true

/-- How many steps there are. -/
def okN (ops : Array Oper) (roles : List Role) (n : Nat) : Bool :=
  ((List.range ops.size).all fun j => match roles.getD j .pure with | .step m => decide (m < n) | _ => true) && (List.range n).all fun m => (List.range ops.size).any fun j => roles.getD j .pure == .step m

structure KInv (ops : Array Oper) (roles : List Role) (listed : Array Bool) (k : Nat) : Prop where
  steps : ∀ j m, roles.getD j .pure = .step m → (listed.getD j false = true ↔ m < k)
  there : ∀ m, m < k → ∃ j, j < ops.size ∧ roles.getD j .pure = .step m
  live : ∀ j, listed.getD j false = true → (∀ m, roles.getD j .pure ≠ .panics m) ∧ roles.getD j .pure ≠ .never

/-- Any order, by a plan. -/
theorem planned_sound {ops : Array Oper} {ts0 vals : List AV} {ds : List ADef} {roles : List Role} {Hs : Nat → List AO} {n : Nat} (hrd : ∀ l, rd = some l → l < N) (hR : okR ops ts0.length = true) (hP : okP (ancT ops.toList []) ops.size roles = true) (hN : okN ops roles n = true) (hL : roles.length = ops.size)
    (hD : ∀ i o, ops[i]? = some o → ∃ ks, okK ops i o ks = true ∧ ks.length = ts0.length ∧ match roles.getD i .pure with
      | .pure => ∀ k, allowed (ancT ops.toList []) ops.size roles i k = true → DOpG E rd md ops Q o ⟨applyK ks ts0 vals, ds⟩ (Hs k) (vals.getD i .top) (Hs k)
      | .step m => DOpG E rd md ops Q o ⟨applyK ks ts0 vals, ds⟩ (Hs m) (vals.getD i .top) (Hs (m + 1))
      | .panics m => DOpN E rd md ops Q o ⟨applyK ks ts0 vals, ds⟩ (Hs m)
      | .never => True)
    (hQ : (∀ i, i < ops.size → (∀ m, roles.getD i .pure ≠ .panics m) ∧ roles.getD i .pure ≠ .never) → ∀ a listed, DInv ops ts0 vals ds listed a → (∀ i, i < ops.size → listed.getD i false = true) → Q .normal a (Hs n)) :
    ∀ (fuel t : Nat) (listed : Array Bool) (k : Nat) (a : AAct), DInv ops ts0 vals ds listed a → KInv ops roles listed k → unlisted ops listed ≤ fuel → WPo E N rd ops Q (Region.linearise.go .any ops fuel t listed []) a (Hs k) := by
  have hlistedlt : ∀ (listed : Array Bool) j, listed.size = ops.size → listed.getD j false = true → j < ops.size := by
    intro listed j hs h
    by_cases hj : j < ops.size
    · exact hj
    · rw [← hs] at hj; simp [Array.getD, hj] at h
  have hend : ∀ (listed : Array Bool) (k : Nat) (a : AAct), DInv ops ts0 vals ds listed a → KInv ops roles listed k → (∀ i, i < ops.size → listed.getD i false = true) → Q .normal a (Hs k) := by
    intro listed k a hi hk hall
    simp only [okN, Bool.and_eq_true] at hN
    have hk1 : k = n := by
      rcases Nat.lt_trichotomy k n with h | h | h
      · obtain ⟨j, hj, hr⟩ := List.any_eq_true.1 (List.all_eq_true.1 hN.2 k (List.mem_range.2 h))
        have := (hk.steps j k (by simpa using hr)).1 (hall j (List.mem_range.1 hj))
        omega
      · exact h
      · obtain ⟨j, hj, hr⟩ := hk.there n h
        have := List.all_eq_true.1 hN.1 j (List.mem_range.2 hj)
        rw [hr] at this
        simp at this
    subst hk1
    exact hQ (fun i hlt => hk.live i (hall i hlt)) a listed hi hall
  have hsome : ∀ listed : Array Bool, listed.size = ops.size → Region.ready .any ops listed = [] → ∀ i, i < ops.size → listed.getD i false = true := by
    intro listed hs hnil i
    induction i using Nat.strongRecOn with
    | _ i ih =>
      intro hi
      have ho : ops[i]? = some ops[i] := Array.getElem?_eq_getElem hi
      have hRi := List.all_eq_true.1 hR i (List.mem_range.2 hi)
      rw [ho] at hRi
      simp only [Bool.and_eq_true] at hRi
      have hlow := List.all_eq_true.1 hRi.1.1
      by_cases h : listed.getD i false = true
      · exact h
      · exfalso
        have hmem : i ∈ Region.ready .any ops listed := by
          refine List.mem_filter.2 ⟨List.mem_range.2 hi, ?_⟩
          rw [ho]
          simp only [Option.map_some, Option.getD_some, Bool.and_eq_true, Bool.not_eq_true']
          refine ⟨?_, ?_⟩
          · have : listed.getD i true = listed.getD i false := by
              rw [Array.getD_eq_getD_getElem?, Array.getD_eq_getD_getElem?, Array.getElem?_eq_getElem (by omega)]; rfl
            rw [this]; simpa using h
          · rw [Array.all_eq_true']
            intro e he
            by_cases hb : Region.binds .any e = true
            · have hin : e.on ∈ edgesOf ops[i] := List.mem_map.2 ⟨e, List.mem_filter.2 ⟨by simpa using he, hb⟩, rfl⟩
              have hlt := hlow e.on hin
              simp only [decide_eq_true_eq] at hlt
              rw [ih e.on hlt (by omega)]; simp
            · simp [hb]
        rw [hnil] at hmem; simp at hmem
  intro fuel
  induction fuel with
  | zero =>
    intro t listed k a hi hk hu
    refine wpo_nil (hend listed k a hi hk fun i hlt => ?_)
    by_cases h : listed.getD i false = true
    · exact h
    · have : i ∈ (List.range ops.size).filter fun i => !listed.getD i false := List.mem_filter.2 ⟨List.mem_range.2 hlt, by simpa using h⟩
      have := List.length_pos_of_mem this
      unfold unlisted at hu; omega
  | succ fuel ih =>
    intro t listed k a hi hk hu
    simp only [Region.linearise.go]
    change WPo E N rd ops Q (match (Region.ready .any ops listed)[t % (Region.ready .any ops listed).length]? with
      | some i => Region.linearise.go .any ops fuel (t / (Region.ready .any ops listed).length) (listed.setIfInBounds i true) [i]
      | none => [].reverse) a (Hs k)
    cases hrs : (Region.ready .any ops listed)[t % (Region.ready .any ops listed).length]? with
    | none =>
      have hnil : Region.ready .any ops listed = [] := by
        cases hr : Region.ready .any ops listed with
        | nil => rfl
        | cons x xs =>
          rw [hr] at hrs
          have hlt : t % (x :: xs).length < (x :: xs).length := Nat.mod_lt _ (by simp)
          rw [List.getElem?_eq_getElem hlt] at hrs
          simp at hrs
      exact wpo_nil (hend listed k a hi hk (hsome listed hi.size hnil))
    | some i =>
      have hmem := List.mem_of_getElem? hrs
      have hm := List.mem_filter.1 hmem
      have hilt := List.mem_range.1 hm.1
      have ho : ops[i]? = some ops[i] := Array.getElem?_eq_getElem hilt
      have hm2 := hm.2
      rw [ho] at hm2
      simp only [Option.map_some, Option.getD_some, Bool.and_eq_true, Bool.not_eq_true'] at hm2
      have hun : listed.getD i false = false := by
        have : listed.getD i true = listed.getD i false := by
          rw [Array.getD_eq_getD_getElem?, Array.getD_eq_getD_getElem?, Array.getElem?_eq_getElem (by rw [hi.size]; exact hilt)]; rfl
        rw [← this]; exact hm2.1
      have hready : ∀ j ∈ edgesOf ops[i], listed.getD j false = true := by
        intro j hj
        obtain ⟨e, he, rfl⟩ := List.mem_map.1 hj
        have he2 := List.mem_filter.1 he
        have := Array.all_eq_true'.1 hm2.2 e (by simpa using he2.1)
        rw [he2.2] at this
        simpa using this
      simp only []
      rw [linearise_go_acc, List.reverse_singleton, List.singleton_append]
      obtain ⟨ks, hks, hkl, hdop⟩ := hD i _ ho
      have hfg := hi.forget ho hks hkl hun hready
      have hi2 := hi.put hR ho hready
      have hset : ∀ j, (listed.setIfInBounds i true).getD j false = (if j = i then true else listed.getD j false) := by
        intro j
        rw [Array.getD_eq_getD_getElem?, Array.getD_eq_getD_getElem?, Array.getElem?_setIfInBounds]
        by_cases e : i = j
        · subst e; simp [hi.size, hilt]
        · rw [if_neg e, if_neg (fun h => e h.symm)]
      have hu2 : unlisted ops (listed.setIfInBounds i true) ≤ fuel := by
        unfold unlisted at hu ⊢
        have hlt : ((List.range ops.size).filter fun k => !(listed.setIfInBounds i true).getD k false).length < ((List.range ops.size).filter fun k => !listed.getD k false).length := by
          have hsub : ((List.range ops.size).filter fun k => !(listed.setIfInBounds i true).getD k false) = ((List.range ops.size).filter fun k => !listed.getD k false).filter fun k => k != i := by
            rw [List.filter_filter]
            apply List.filter_congr
            intro k hk
            rw [hset]
            by_cases e : k = i
            · subst e; simp
            · have : (k != i) = true := by simpa using e
              rw [if_neg e, this]; simp
          rw [hsub]
          exact List.length_filter_lt_length_iff_exists.2 ⟨i, List.mem_filter.2 ⟨List.mem_range.2 hilt, by simpa using hun⟩, by simp⟩
        omega
      -- what the plan says of it
      have hPi := List.all_eq_true.1 hP i (List.mem_range.2 hilt)
      have hanc : ∀ j ∈ (ancT ops.toList []).getD i [], listed.getD j false = true := anc_down (P := fun j => listed.getD j false = true) (fun i o ho hl => hi.down i o ho hl) i _ ho hready
      have before : ∀ m, (m == 0 || ((ancT ops.toList []).getD i []).any fun j => roles.getD j .pure == .step (m - 1)) = true → m ≤ k := by
        intro m h
        rcases Nat.eq_zero_or_pos m with h0 | h0
        · omega
        · rw [show (m == 0) = false by simpa using (by omega : m ≠ 0), Bool.false_or] at h
          obtain ⟨j, hj, hr⟩ := List.any_eq_true.1 h
          have := (hk.steps j (m - 1) (by simpa using hr)).1 (hanc j hj)
          omega
      have go : ∀ k', KInv ops roles (listed.setIfInBounds i true) k' → DOpG E rd md ops Q ops[i] ⟨applyK ks ts0 vals, ds⟩ (Hs k) (vals.getD i .top) (Hs k') →
          WPo E N rd ops Q (i :: Region.linearise.go .any ops fuel (t / (Region.ready .any ops listed).length) (listed.setIfInBounds i true) []) a (Hs k) := by
        intro k' hk' hdop
        have hrest := ih (t / (Region.ready .any ops listed).length) _ k' _ hi2 hk' hu2
        intro g0 g w a' hd hl hr ha
        simp only [wpOpsIn, ho]
        have hb : ARel g ⟨applyK ks ts0 vals, ds⟩ a' := ⟨fgt_rels _ _ hfg _ ha.1, hi.defers ▸ ha.2⟩
        unfold DOpG at hdop
        split at hdop
        · rename_i hg
          rw [guard_sound hb hg, if_pos rfl]
          have := opok_more2 hrd hdop (a := a) hfg hi.defers g0 g w a' hd hl hr ha
          refine wpIn_frame this ?_ ?_ (fun _ _ h => h) (fun h => h)
          · rintro c w2 ⟨A, H3, g2, ⟨rfl, rfl⟩, hl2, hr2, ha2⟩
            exact hrest g0 g2 w2 _ hd hl2 hr2 ha2
          · rintro d c w2 ⟨A, H3, g2, ⟨rfl, rfl⟩, hl2, hr2, ha2⟩
            have h1 := ha2.2.length
            have h2 := ha.2.length
            rw [AAct.put_defers, Act.put_defers'] at h1
            simp only [List.length_cons] at h1
            omega
        · rename_i hg
          rw [guard_sound hb hg, if_neg (by simp)]
          refine ⟨fun f _ => fence_fn _ _ _, ?_⟩
          rw [hdop.1, hdop.2] at hrest
          exact hrest g0 g w _ hd hl hr (ha.put _ (undef_rel _))
        · exact hdop.elim
      cases hrole : roles.getD i .pure with
      | pure =>
        rw [hrole] at hdop
        have hal : allowed (ancT ops.toList []) ops.size roles i k = true := by
          refine List.all_eq_true.2 fun j hj => ?_
          split
          · rename_i m hm
            simp only [Bool.and_eq_true, Bool.or_eq_true, Bool.not_eq_true', decide_eq_true_eq]
            refine ⟨?_, ?_⟩
            · by_cases h : ((ancT ops.toList []).getD i []).contains j = true
              · exact .inr ((hk.steps j m hm).1 (hanc j (by simpa using h)))
              · exact .inl (by simpa using h)
            · by_cases h : ((ancT ops.toList []).getD j []).contains i = true
              · refine .inr ?_
                by_cases hlt : m < k
                · have hlj := (hk.steps j m hm).2 hlt
                  have hjo : ops[j]? = some (ops[j]'(List.mem_range.1 hj)) := Array.getElem?_eq_getElem (List.mem_range.1 hj)
                  have := anc_down (P := fun j => listed.getD j false = true) (fun i o ho hl => hi.down i o ho hl) j _ hjo (hi.down j _ hjo hlj) i (by simpa using h)
                  rw [this] at hun; simp at hun
                · omega
              · exact .inl (by simpa using h)
          · rfl
        refine go k ⟨fun j m hj => ?_, hk.there, fun j hj => ?_⟩ (hdop k hal)
        · have e : j ≠ i := by rintro rfl; rw [hrole] at hj; simp at hj
          rw [hset, if_neg e]; exact hk.steps j m hj
        · by_cases e : j = i
          · subst e; rw [hrole]; exact ⟨by simp, by simp⟩
          · rw [hset, if_neg e] at hj; exact hk.live j hj
      | step m =>
        rw [hrole] at hdop hPi
        simp only [Bool.and_eq_true] at hPi
        have h1 := before m hPi.1
        have h2 : ¬ m < k := fun h => by have := (hk.steps i m hrole).2 h; rw [this] at hun; simp at hun
        obtain rfl : m = k := by omega
        have huniq : ∀ j, j ≠ i → roles.getD j .pure ≠ .step m := by
          intro j hj hr
          by_cases hlt : j < ops.size
          · have := List.all_eq_true.1 hPi.2 j (List.mem_range.2 hlt)
            rw [hr] at this
            simp at this
            exact hj this
          · rw [List.getD_eq_getElem?_getD, List.getElem?_eq_none (by omega)] at hr
            simp at hr
        refine go (m + 1) ⟨fun j m' hj => ?_, fun m' hm' => ?_, fun j hj => ?_⟩ hdop
        · by_cases e : j = i
          · subst e; rw [hrole] at hj; injection hj with hj; subst hj; rw [hset, if_pos rfl]; simp
          · rw [hset, if_neg e, hk.steps j m' hj]
            have : m' ≠ m := fun h => huniq j e (h ▸ hj)
            omega
        · rcases Nat.lt_succ_iff_lt_or_eq.1 hm' with h | h
          · exact hk.there m' h
          · subst h; exact ⟨i, hilt, hrole⟩
        · by_cases e : j = i
          · subst e; rw [hrole]; exact ⟨by simp, by simp⟩
          · rw [hset, if_neg e] at hj; exact hk.live j hj
      | panics m =>
        rw [hrole] at hdop hPi
        simp only [Bool.and_eq_true] at hPi
        have h1 := before m hPi.1
        have h2 : ¬ m < k := fun h => by
          obtain ⟨j, hj, hr⟩ := hk.there m h
          have hji : j ≠ i := by rintro rfl; rw [hrole] at hr; simp at hr
          have := List.all_eq_true.1 hPi.2 j (List.mem_range.2 hj)
          rw [hr] at this
          simp at this
          exact hji this
        obtain rfl : m = k := by omega
        intro g0 g w a' hd hl hr ha
        simp only [wpOpsIn, ho]
        have hb : ARel g ⟨applyK ks ts0 vals, ds⟩ a' := ⟨fgt_rels _ _ hfg _ ha.1, hi.defers ▸ ha.2⟩
        rw [guard_sound hb hdop.1, if_pos rfl]
        refine wpIn_frame (opok_never hrd hdop.2 (a := a) hfg hi.defers (K := fun _ _ => False) g0 g w a' hd hl hr ha) ?_ ?_ (fun _ _ h => h) (fun h => h)
        · rintro c w2 ⟨A, H3, g2, hh, _⟩; exact hh.elim
        · rintro d c w2 ⟨A, H3, g2, hh, _⟩; exact hh
      | never =>
        rw [hrole] at hPi
        obtain ⟨j, hj, hr⟩ := List.any_eq_true.1 hPi
        have := hk.live j (hanc j hj)
        split at hr
        · rename_i h; exact absurd h this.2
        · rename_i m h; exact absurd h (this.1 _)
        · simp at hr

end Go.Ab

/- The abstract view, 24: regions whose order is drawn, told in the order of the text: what an operation gives hangs on its operands alone. -/
set_option linter.unusedVariables false
set_option linter.unusedSimpArgs false
namespace Go.Ab
open Go Go.RowKit

variable {E : Env} {N : Nat} {rd : Option Nat} {md : Nat → Nat} {Q : APost} {a b : AAct} {H H2 : List AO}

theorem evCallArgs_congr {gl : Nat → List AV} {c : Call} (h : ∀ x ∈ c.operands.toList, a.ev gl x = b.ev gl x) : evCallArgs a gl c = evCallArgs b gl c := by
  unfold evCallArgs
  refine List.map_congr_left fun x hx => h x ?_
  unfold Call.operands
  simp at hx ⊢
  exact .inr hx

theorem evBuiltin_congr {c : Call} (h : ∀ x ∈ c.operands.toList, a.ev E.gl x = b.ev E.gl x) : evBuiltin E a c = evBuiltin E b c := by
  have hm : ∀ x ∈ c.args.toList, a.ev E.gl x = b.ev E.gl x := fun x hx => h x (by unfold Call.operands; simp at hx ⊢; exact .inr hx)
  unfold evBuiltin
  cases c.callee with
  | builtin b =>
    simp only
    generalize c.args.toList = l at hm ⊢
    generalize c.argTypes.toList = tl
    rcases l with _ | ⟨x, _ | ⟨y, _ | ⟨z, l⟩⟩⟩
    · cases b <;> rfl
    · have e1 := hm x (by simp)
      cases b <;> try rfl
      rcases tl with _ | ⟨t, _ | ⟨t2, tl⟩⟩ <;> simp only [e1]
    · have e1 := hm x (by simp)
      have e2 := hm y (by simp)
      cases b <;> first | rfl | simp only [e1, e2]
    · cases b <;> rfl
  | value f => rfl
  | invoke x y => rfl

theorem evBound_congr {gl : Nat → List AV} {x : Option Operand} (h : ∀ y ∈ x.toList, a.ev gl y = b.ev gl y) (d : Nat) : evBound a gl x d = evBound b gl x d := by
  cases x with
  | none => rfl
  | some o => simp only [evBound, h o (by simp)]

theorem evPure_congr {o : Oper} (h : ∀ x ∈ o.op.operands.toList, a.ev E.gl x = b.ev E.gl x) : evPure E a H o = evPure E b H o := by
  obtain ⟨dst, op, ty, pos, after, guard⟩ := o
  cases op
  case call c => exact evBuiltin_congr h
  case makeFunc fn first cap =>
    cases fn <;> simp only [evPure]
    have h1 : first.toList.map (a.ev E.gl) = first.toList.map (b.ev E.gl) := List.map_congr_left fun x hx => h x (by simp [Op.operands] at hx ⊢; exact .inl hx)
    have h2 : cap.toList.map (a.ev E.gl) = cap.toList.map (b.ev E.gl) := List.map_congr_left fun x hx => h x (by simp [Op.operands] at hx ⊢; exact .inr hx)
    rw [h1, h2]
  case slice t x lo hi mx =>
    cases mx with
    | some m =>
      cases hi with
      | none => rfl
      | some k =>
        simp only [evPure]
        have h0 := h x (by simp [Op.operands])
        have h1 : ∀ d, evBound a E.gl lo d = evBound b E.gl lo d := evBound_congr fun y hy => h y (by simp [Op.operands] at hy ⊢; simp [hy])
        have h2 : ∀ d, evBound a E.gl (some k) d = evBound b E.gl (some k) d := evBound_congr fun y hy => h y (by simp [Op.operands] at hy ⊢; simp [hy])
        have h3 : ∀ d, evBound a E.gl (some m) d = evBound b E.gl (some m) d := evBound_congr fun y hy => h y (by simp [Op.operands] at hy ⊢; simp [hy])
        rw [h0, h1, h2, h3]
    | none =>
      simp only [evPure]
      have h0 := h x (by simp [Op.operands])
      have h1 : ∀ d, evBound a E.gl lo d = evBound b E.gl lo d := evBound_congr fun y hy => h y (by simp [Op.operands] at hy ⊢; simp [hy])
      have h2 : ∀ d, evBound a E.gl hi d = evBound b E.gl hi d := evBound_congr fun y hy => h y (by simp [Op.operands] at hy ⊢; simp [hy])
      rw [h0, h1]
      congr 1
      funext n
      exact h2 n
  case pick c x y => simp only [evPure, h c (by simp [Op.operands]), h x (by simp [Op.operands]), h y (by simp [Op.operands])]
  case binOp op t x y _ => simp only [evPure, h x (by simp [Op.operands]), h y (by simp [Op.operands])]
  case indexAddr t x y => simp only [evPure, h x (by simp [Op.operands]), h y (by simp [Op.operands])]
  case index t x y => simp only [evPure, h x (by simp [Op.operands]), h y (by simp [Op.operands])]
  case alloc => rfl
  case box => rfl
  case build => rfl
  case buildSlice => rfl
  case insert => rfl
  case store => rfl
  case ready => rfl
  case waits => rfl
  case sliceToArrayPointer t x => simp only [evPure, h x (by simp [Op.operands])]
  case makeMap => rfl
  case makeChan => rfl
  case makeSlice => rfl
  case lookup => rfl
  case mapUpdate => rfl
  case mapEntry => rfl
  case entryStore => rfl
  case range => rfl
  case next => rfl
  case entry => rfl
  case go => rfl
  case defer => rfl
  case panic => rfl
  case send => rfl
  case recv => rfl
  case select => rfl
  case field t x f => simp only [evPure, h x (by simp [Op.operands])]
  case fieldAddr t x f => simp only [evPure, h x (by simp [Op.operands])]
  case typeAssert x xt t ok => simp only [evPure, h x (by simp [Op.operands])]
  case extract x k => simp only [evPure, h x (by simp [Op.operands])]
  case move x => simp only [evPure, h x (by simp [Op.operands])]
  case assign x => simp only [evPure, h x (by simp [Op.operands])]
  case load t x => simp only [evPure, h x (by simp [Op.operands])]
  case nilCheck x => simp only [evPure, h x (by simp [Op.operands])]
  case unOp op t x => simp only [evPure, h x (by simp [Op.operands])]
  case convert s d x => simp only [evPure, h x (by simp [Op.operands])]
  case makeInterface t x => simp only [evPure, h x (by simp [Op.operands])]

theorem evParts_congr {gl : Nat → List AV} {ps : Array (Nat × Operand)} (h : ∀ x ∈ (ps.toList.map (·.2)), a.ev gl x = b.ev gl x) : evParts a gl ps = evParts b gl ps := by
  unfold evParts
  exact List.map_congr_left fun p hp => by rw [h p.2 (List.mem_map.2 ⟨p, hp, rfl⟩)]

theorem evHeap_congr {o : Oper} (h : ∀ x ∈ o.op.operands.toList, a.ev E.gl x = b.ev E.gl x) : evHeap E md a H o = evHeap E md b H o := by
  obtain ⟨dst, op, ty, pos, after, guard⟩ := o
  cases op
  case box t x => simp only [evHeap, h x (by simp [Op.operands])]
  case build t ps => simp only [evHeap, evBuild, evParts_congr (a := a) (b := b) (gl := E.gl) (ps := ps) (fun x hx => h x (by simpa [Op.operands] using hx))]
  case buildSlice t n ps => simp only [evHeap, evBuildSlice, evParts_congr (a := a) (b := b) (gl := E.gl) (ps := ps) (fun x hx => h x (by simpa [Op.operands] using hx))]
  case store t x y => simp only [evHeap, h x (by simp [Op.operands]), h y (by simp [Op.operands])]
  case convert s d x => simp only [evHeap, h x (by simp [Op.operands])]
  case range t x => simp only [evHeap, h x (by simp [Op.operands])]
  case next x s => cases s <;> simp only [evHeap, h x (by simp [Op.operands])]
  case makeSlice t x y => simp only [evHeap, h x (by simp [Op.operands]), h y (by simp [Op.operands])]
  case call c =>
    simp only [evHeap]
    cases hc : c.callee with
    | value f => rfl
    | invoke x y => rfl
    | builtin bb =>
      cases bb <;> try rfl
      simp only
      have hm : ∀ z ∈ c.args.toList, a.ev E.gl z = b.ev E.gl z := fun z hz => h z (by
        simp only [Op.operands]
        unfold Call.operands
        simp at hz ⊢
        exact .inr hz)
      rcases hargs : c.args.toList with _ | ⟨x, _ | ⟨y, _ | ⟨z, l⟩⟩⟩ <;> try rfl
      rw [hargs] at hm
      rcases c.argTypes.toList with _ | ⟨t1, _ | ⟨t2, _ | ⟨t3, tl⟩⟩⟩ <;> try rfl
      simp only [hm x (by simp), hm y (by simp)]
  all_goals rfl

/-! ### What an operation comes to -/
inductive Ent (E : Env) (md : Nat → Nat) (ops : Array Oper) (ds : List ADef) (o : Oper) (ts : List AV) (H : List AO) : AV → List AO → Prop
  | off (hg : guardOk ops ⟨ts, ds⟩ o = some false) : Ent E md ops ds o ts H (.tup []) H
  | pure {v : AV} (hg : guardOk ops ⟨ts, ds⟩ o = some true) (hp : pureOp o.op = true) (hv : evPure E ⟨ts, ds⟩ H o = some v) : Ent E md ops ds o ts H v H
  | conv {v : AV} {H2 : List AO} {s d : TypeId} {x : Operand} (hg : guardOk ops ⟨ts, ds⟩ o = some true) (hp : o.op = .convert s d x) (h0 : evPure E ⟨ts, ds⟩ H o = none) (hv : evHeap E md ⟨ts, ds⟩ H o = some (v, H2)) : Ent E md ops ds o ts H v H2
  | heap {v : AV} {H2 : List AO} (hg : guardOk ops ⟨ts, ds⟩ o = some true) (hp : heapOp o.op = true) (hv : evHeap E md ⟨ts, ds⟩ H o = some (v, H2)) : Ent E md ops ds o ts H v H2
  | app {v : AV} {H2 : List AO} (hg : guardOk ops ⟨ts, ds⟩ o = some true) {c : Call} (ho : o.op = .call c) (hc : c.callee = .builtin .append) {x y : Operand} {t t2 : TypeId} (hx : c.args = [x, y].toArray) (ht : c.argTypes = [t, t2].toArray) {i2 : TyI} (ht2 : E.ty t2 = some i2) (hi2 : (match i2.u with | .int _ => false | _ => true) = true)
      (hv : evAppend E H t (AAct.ev E.gl ⟨ts, ds⟩ x) (AAct.ev E.gl ⟨ts, ds⟩ y) = some (v, H2)) : Ent E md ops ds o ts H v H2
  | call {v : AV} {H2 : List AO} (hg : guardOk ops ⟨ts, ds⟩ o = some true) {c : Call} (ho : o.op = .call c) {f : Operand} (hc : c.callee = .value f) {fid : FuncId} {first cap : List AV} (hf : AAct.ev E.gl ⟨ts, ds⟩ f = .fn fid first cap) {args : List AV} (ha : first ++ evCallArgs ⟨ts, ds⟩ E.gl c ++ cap = args)
      (h : ACall E fid args H (fun x H' => x = .ret v ∧ H' = H2)) : Ent E md ops ds o ts H v H2
  | yield {v : AV} {H2 : List AO} (hg : guardOk ops ⟨ts, ds⟩ o = some true) {c : Call} (ho : o.op = .call c) {f : Operand} (hc : c.callee = .value f) {lp : Nat} (hf : AAct.ev E.gl ⟨ts, ds⟩ f = .yield lp) {args : List AV} (ha : evCallArgs ⟨ts, ds⟩ E.gl c = args)
      (h : ARound E lp args H (fun x H' => x = .ret v ∧ H' = H2)) : Ent E md ops ds o ts H v H2

/-- An operation that panics. -/
inductive EntP (E : Env) (ops : Array Oper) (ds : List ADef) (o : Oper) (ts : List AV) (H : List AO) : List APanic → List AO → Prop
  | call {ch : List APanic} {H2 : List AO} (hg : guardOk ops ⟨ts, ds⟩ o = some true) {c : Call} (ho : o.op = .call c) {f : Operand} (hc : c.callee = .value f) {fid : FuncId} {first cap : List AV} (hf : AAct.ev E.gl ⟨ts, ds⟩ f = .fn fid first cap) {args : List AV} (ha : first ++ evCallArgs ⟨ts, ds⟩ E.gl c ++ cap = args)
      (h : ACall E fid args H (fun x H' => x = .panic ch ∧ H' = H2)) : EntP E ops ds o ts H ch H2

theorem Ent.dopg {ops : Array Oper} {ds : List ADef} {o : Oper} {ts : List AV} {v : AV} (h : Ent E md ops ds o ts H v H2) : DOpG E rd md ops Q o ⟨ts, ds⟩ H v H2 := by
  cases h with
  | off hg => simp only [DOpG, hg]; exact ⟨trivial, trivial⟩
  | pure hg hp hv => simp only [DOpG, hg]; exact wop_pure hp hv ⟨rfl, rfl⟩
  | conv hg hp h0 hv => simp only [DOpG, hg]; exact wop_convert hp h0 hv ⟨rfl, rfl⟩
  | heap hg hp hv => simp only [DOpG, hg]; exact wop_heap hp hv ⟨rfl, rfl⟩
  | app hg ho hc hx ht ht2 hi2 hv => simp only [DOpG, hg]; exact wop_append ho hc hx ht ht2 hi2 hv ⟨rfl, rfl⟩
  | call hg ho hc hf ha h =>
    simp only [DOpG, hg]
    refine wop_call ho hc hf ha (ACall.mono h ?_)
    rintro x H' ⟨rfl, rfl⟩
    exact ⟨rfl, rfl⟩
  | yield hg ho hc hf ha h =>
    simp only [DOpG, hg]
    refine wop_yield ho hc hf ha (ARound.mono h ?_)
    rintro x H' ⟨rfl, rfl⟩
    exact ⟨rfl, rfl⟩

theorem EntP.dopn {ops : Array Oper} {ds : List ADef} {o : Oper} {ts : List AV} {ch : List APanic} (h : EntP E ops ds o ts H ch H2) (hq : ∀ ts2, fgt ts2 ts → Q (.panic ch) ⟨ts2, ds⟩ H2) : DOpN E rd md ops Q o ⟨ts, ds⟩ H := by
  cases h with
  | call hg ho hc hf ha h =>
    refine ⟨hg, wop_call ho hc hf ha (ACall.mono h ?_)⟩
    rintro x H' ⟨rfl, rfl⟩
    exact hq

/-- The temporaries that an operation looks at. -/
def opT : Operand → Option Nat
  | .tmp t => some t
  | _ => none
def tmpsOf (ops : Array Oper) (o : Oper) : List Nat :=
  o.op.operands.toList.filterMap opT ++ (match o.guard with | some (j, _) => ((ops[j]?).bind (·.dst)).toList | none => [])

theorem ev_agree {gl : Nat → List AV} {ops : Array Oper} {o : Oper} {ts ts2 : List AV} {ds : List ADef} (h : ∀ t ∈ tmpsOf ops o, ts.getD t .top = ts2.getD t .top) : ∀ x ∈ o.op.operands.toList, AAct.ev gl ⟨ts, ds⟩ x = AAct.ev gl ⟨ts2, ds⟩ x := by
  intro x hx
  cases x with
  | tmp t => exact h t (List.mem_append.2 (.inl (List.mem_filterMap.2 ⟨.tmp t, hx, rfl⟩)))
  | const v => rfl
  | global g => rfl
  | func f => rfl

theorem guard_agree {ops : Array Oper} {o : Oper} {ts ts2 : List AV} {ds : List ADef} (h : ∀ t ∈ tmpsOf ops o, ts.getD t .top = ts2.getD t .top) : guardOk ops ⟨ts, ds⟩ o = guardOk ops ⟨ts2, ds⟩ o := by
  unfold guardOk
  cases hg : o.guard with
  | none => rfl
  | some p =>
    obtain ⟨j, want⟩ := p
    simp only
    cases hd : (ops[j]?).bind (·.dst) with
    | none => rfl
    | some d =>
      simp only
      rw [h d (List.mem_append.2 (.inr (by rw [hg]; simp only [hd]; simp)))]

theorem Ent.agree {ops : Array Oper} {ds : List ADef} {o : Oper} {ts ts2 : List AV} {v : AV} (h : Ent E md ops ds o ts H v H2) (k : ∀ t ∈ tmpsOf ops o, ts.getD t .top = ts2.getD t .top) : Ent E md ops ds o ts2 H v H2 := by
  have ke := ev_agree (gl := E.gl) (ds := ds) k
  have kg := guard_agree (ds := ds) k
  have kc : ∀ {c : Call}, o.op = .call c → ∀ x ∈ c.operands.toList, AAct.ev E.gl ⟨ts, ds⟩ x = AAct.ev E.gl ⟨ts2, ds⟩ x := fun ho x hx => ke x (by rw [ho]; exact hx)
  cases h with
  | off hg => exact .off (kg ▸ hg)
  | pure hg hp hv => exact .pure (kg ▸ hg) hp (by rw [← hv]; exact (evPure_congr ke).symm)
  | conv hg hp h0 hv => exact .conv (kg ▸ hg) hp (by rw [← h0]; exact (evPure_congr ke).symm) (by rw [← hv]; exact (evHeap_congr ke).symm)
  | heap hg hp hv => exact .heap (kg ▸ hg) hp (by rw [← hv]; exact (evHeap_congr ke).symm)
  | app hg ho hc hx ht ht2 hi2 hv =>
    have h1 := kc ho
    refine .app (kg ▸ hg) ho hc hx ht ht2 hi2 ?_
    rw [← h1 _ (by unfold Call.operands; rw [hc, hx]; simp), ← h1 _ (by unfold Call.operands; rw [hc, hx]; simp)]
    exact hv
  | call hg ho hc hf ha h =>
    have h1 := kc ho
    refine .call (kg ▸ hg) ho hc (by rw [← h1 _ (by unfold Call.operands; rw [hc]; simp)]; exact hf) (by rw [← evCallArgs_congr h1]; exact ha) h
  | yield hg ho hc hf ha h =>
    have h1 := kc ho
    refine .yield (kg ▸ hg) ho hc (by rw [← h1 _ (by unfold Call.operands; rw [hc]; simp)]; exact hf) (by rw [← evCallArgs_congr h1]; exact ha) h

theorem EntP.agree {ops : Array Oper} {ds : List ADef} {o : Oper} {ts ts2 : List AV} {ch : List APanic} (h : EntP E ops ds o ts H ch H2) (k : ∀ t ∈ tmpsOf ops o, ts.getD t .top = ts2.getD t .top) : EntP E ops ds o ts2 H ch H2 := by
  have ke := ev_agree (gl := E.gl) (ds := ds) k
  have kg := guard_agree (ds := ds) k
  cases h with
  | call hg ho hc hf ha h =>
    have h1 : ∀ x ∈ _, AAct.ev E.gl ⟨ts, ds⟩ x = AAct.ev E.gl ⟨ts2, ds⟩ x := fun x hx => ke x (by rw [ho]; exact hx)
    refine .call (kg ▸ hg) ho hc (by rw [← h1 _ (by show _ ∈ (Call.operands _).toList; unfold Call.operands; rw [hc]; simp)]; exact hf) (by rw [← evCallArgs_congr h1]; exact ha) h

/-! ### Operations that look at no memory -/
/-- Operations that only look at memory. -/
def readerOp : Op → Bool
  | .load _ _ | .convert _ _ _ => true
  | _ => false

/-- Operations that may turn memory as it is seen. -/
def stepOp (md : Nat → Nat) (o : Oper) : Bool :=
  match o.op with
  | .call c => match c.callee with | .builtin .append => true | .builtin .copy => true | .builtin _ => false | _ => true
  | .box _ _ => md (o.dst.getD 0) != 1
  | .makeSlice _ _ _ => md (o.dst.getD 0) == 2 || md (o.dst.getD 0) == 3
  | .buildSlice _ _ _ => md (o.dst.getD 0) == 2
  | .convert _ _ _ => md (o.dst.getD 0) == 2 || md (o.dst.getD 0) == 3
  | .build _ _ => false
  | .alloc _ | .store _ _ _ | .range _ _ | .next _ _ | .defer _ | .panic _ => true
  | _ => false

theorem evPure_free {o : Oper} (h : readerOp o.op = false) : evPure E a H o = evPure E a H2 o := by
  obtain ⟨dst, op, ty, pos, after, guard⟩ := o
  cases op
  case makeFunc f _ _ => cases f <;> rfl
  case slice _ _ _ k m => cases m with
    | none => rfl
    | some m => cases k <;> rfl
  all_goals first | rfl | (simp [readerOp] at h)

theorem Ent.free {ops : Array Oper} {ds : List ADef} {o : Oper} {ts : List AV} {v : AV} {H3 : List AO} (h : Ent E md ops ds o ts H v H3) (hr : readerOp o.op = false) (hs : stepOp md o = false) : H3 = H ∧ Ent E md ops ds o ts H2 v H2 := by
  cases h with
  | off hg => exact ⟨rfl, .off hg⟩
  | pure hg hp hv => exact ⟨rfl, .pure hg hp (by rw [← hv]; exact (evPure_free hr).symm)⟩
  | conv hg hp h0 hv => rw [hp] at hr; simp [readerOp] at hr
  | heap hg hp hv =>
    cases hop : o.op <;> rw [hop] at hp <;> simp only [heapOp] at hp <;> try (simp at hp; done)
    all_goals (simp only [stepOp, hop] at hs; try (simp at hs; done))
    all_goals (simp only [evHeap, hop] at hv)
    · rename_i t x
      split at hv
      · rename_i i hi
        split at hv
        · rename_i hc
          have h1 : md (o.dst.getD 0) = 1 := by simpa using hs
          rw [if_pos h1] at hv
          injection hv with hv; injection hv with h2 h3
          subst h2; subst h3
          exact ⟨rfl, .heap hg (by rw [hop]; rfl) (by simp only [evHeap, hop, hi, if_pos hc, if_pos h1])⟩
        · simp at hv
      · simp at hv
    · rename_i t ps
      cases he : evBuild E ⟨ts, ds⟩ t ps with
      | none => rw [he] at hv; simp at hv
      | some u =>
        rw [he] at hv; simp only [Option.map_some] at hv
        injection hv with hv; injection hv with h2 h3
        subst h2; subst h3
        exact ⟨rfl, .heap hg (by rw [hop]; rfl) (by simp only [evHeap, hop, he, Option.map_some])⟩
    · rename_i t n ps
      split at hv
      · rename_i xs he
        have h1 : ¬ md (o.dst.getD 0) = 2 := by simpa using hs
        rw [if_neg h1] at hv
        injection hv with hv; injection hv with h2 h3
        subst h2; subst h3
        exact ⟨rfl, .heap hg (by rw [hop]; rfl) (by simp only [evHeap, hop, he, if_neg h1])⟩
      · simp at hv
    · split at hv
      · rename_i i q n q2 m ht hle hce
        split at hv
        · rename_i e hu
          split at hv
          · rename_i j hj
            split at hv
            · rename_i hcnd
              have h1 : ¬ md (o.dst.getD 0) = 2 := by intro h; rw [h] at hs; simp at hs
              have h2 : ¬ md (o.dst.getD 0) = 3 := by intro h; rw [h] at hs; simp at hs
              rw [if_neg h1, if_neg h2] at hv
              injection hv with hv; injection hv with h3 h4
              subst h3; subst h4
              exact ⟨rfl, .heap hg (by rw [hop]; rfl) (by simp only [evHeap, hop, ht, hle, hce, hu, hj, if_pos hcnd, if_neg h1, if_neg h2])⟩
            · simp at hv
          · simp at hv
        · simp at hv
      · simp at hv
    · rename_i c
      split at hp
      · rename_i hcal; rw [hcal] at hs; simp at hs
      · simp at hp
  | app hg ho hc hx ht ht2 hi2 hv => simp only [stepOp, ho, hc] at hs; simp at hs
  | call hg ho hc hf ha h => simp only [stepOp, ho, hc] at hs; simp at hs
  | yield hg ho hc hf ha h => simp only [stepOp, ho, hc] at hs; simp at hs

end Go.Ab

/- The abstract view, 25: regions whose order is drawn, told in the order of the text. -/
set_option linter.unusedVariables false
set_option linter.unusedSimpArgs false
namespace Go.Ab
open Go Go.RowKit

variable {E : Env} {N : Nat} {rd : Option Nat} {md : Nat → Nat} {Q : APost} {a b : AAct} {H H2 : List AO}

/-- What is sure of a temporary when an operation is drawn. -/
def knowK (ops : Array Oper) (i : Nat) (o : Oper) (t : Nat) : Nat :=
  match (List.range ops.size).find? (fun j => dstOf ops j == some t && (edgesOf o).contains j) with
  | some j => j + 2
  | none => if (List.range ops.size).all (fun j => dstOf ops j != some t || j == i || ((ops[j]?).map (fun o => (edgesOf o).contains i)).getD false) then 0 else 1
def ksOf (ops : Array Oper) (i : Nat) (o : Oper) (n : Nat) : List Nat := (List.range n).map (knowK ops i o)

theorem ksOf_get (ops : Array Oper) (i : Nat) (o : Oper) (n t : Nat) (h : t < n) : (ksOf ops i o n).getD t 1 = knowK ops i o t := by
  simp [ksOf, List.getD_eq_getElem?_getD, h]

theorem okK_ksOf (ops : Array Oper) (i : Nat) (o : Oper) (n : Nat) : okK ops i o (ksOf ops i o n) = true := by
  refine List.all_eq_true.2 fun t ht => ?_
  have ht' : t < n := by simpa [ksOf] using ht
  rw [ksOf_get _ _ _ _ _ ht']
  cases hf : (List.range ops.size).find? (fun j => dstOf ops j == some t && (edgesOf o).contains j) with
  | some j =>
    have hk : knowK ops i o t = j + 2 := by simp only [knowK, hf]
    rw [hk]
    have := List.find?_some hf
    simp only [Bool.and_eq_true] at this ⊢
    exact ⟨this.2, this.1⟩
  | none =>
    by_cases hc : ((List.range ops.size).all fun j => dstOf ops j != some t || j == i || ((ops[j]?).map (fun o => (edgesOf o).contains i)).getD false) = true
    · have hk : knowK ops i o t = 0 := by simp only [knowK, hf, if_pos hc]
      rw [hk]; exact hc
    · have hk : knowK ops i o t = 1 := by simp only [knowK, hf, if_neg hc]
      rw [hk]

/-- Every temporary that an operation looks at is sure. -/
def okD (ops : Array Oper) : Bool := (List.range ops.size).all fun i => match ops[i]? with
  | some o => (tmpsOf ops o).all fun t => knowK ops i o t != 1
  | none => false

structure En where
  ts : List AV
  H : List AO
  v : AV
  H' : List AO
  deriving Inhabited

inductive DOut where
  | normal (ts : List AV) (H : List AO)
  | panic (ch : List APanic) (H : List AO)

def DOut.heap : DOut → List AO
  | .normal _ H => H
  | .panic _ H => H

def putL (ts : List AV) (d : Option Tmp) (v : AV) : List AV := match d with | some d => ts.set d v | none => ts

/-- The operations one behind the other. -/
inductive Tr (E : Env) (md : Nat → Nat) (ops : Array Oper) (ds : List ADef) : List Oper → List AV → List AO → List En → DOut → Prop
  | nil {ts : List AV} {H : List AO} : Tr E md ops ds [] ts H [] (.normal ts H)
  | cons {o : Oper} {l : List Oper} {ts : List AV} {H H' : List AO} {v : AV} {es : List En} {out : DOut} (h : Ent E md ops ds o ts H v H') (hs : stepOp md o = false → H' = H) (k : Tr E md ops ds l (putL ts o.dst v) H' es out) : Tr E md ops ds (o :: l) ts H (⟨ts, H, v, H'⟩ :: es) out
  | panic {o : Oper} {l : List Oper} {ts : List AV} {H H' : List AO} {ch : List APanic} (h : EntP E ops ds o ts H ch H') : Tr E md ops ds (o :: l) ts H [⟨ts, H, .top, H'⟩] (.panic ch H')

theorem EntP.step {ops : Array Oper} {ds : List ADef} {o : Oper} {ts : List AV} {ch : List APanic} (h : EntP E ops ds o ts H ch H2) : stepOp md o = true := by
  cases h with
  | call hg ho hc hf ha h => simp only [stepOp, ho, hc]

def panOf (i : Nat) (es : List En) : DOut → Option Nat
  | .normal _ _ => none
  | .panic _ _ => some (i + es.length - 1)

def rolesOf (md : Nat → Nat) : Option Nat → List Oper → Nat → List Role
  | _, [], _ => []
  | some 0, o :: l, m => .panics m :: l.map (fun _ => .never)
  | some (p + 1), o :: l, m => if stepOp md o then .step m :: rolesOf md (some p) l (m + 1) else .pure :: rolesOf md (some p) l m
  | none, o :: l, m => if stepOp md o then .step m :: rolesOf md none l (m + 1) else .pure :: rolesOf md none l m

/-- The heaps ahead of the steps, and at the end. -/
def hsOf (md : Nat → Nat) : List Oper → List En → List AO → List (List AO)
  | o :: l, e :: es, He => if stepOp md o then e.H :: hsOf md l es He else hsOf md l es He
  | _, _, He => [He]

def nSteps (roles : List Role) : Nat := (roles.filter fun r => match r with | .step _ => true | _ => false).length

def okPlan (md : Nat → Nat) (ops : Array Oper) (n : Nat) (pan : Option Nat) : Bool :=
  okR ops n && okD ops && okP (ancT ops.toList []) ops.size (rolesOf md pan ops.toList 0) && okN ops (rolesOf md pan ops.toList 0) (nSteps (rolesOf md pan ops.toList 0))

theorem rolesOf_len (md : Nat → Nat) : ∀ (l : List Oper) (pan : Option Nat) (m : Nat), (rolesOf md pan l m).length = l.length := by
  intro l
  induction l with
  | nil => intro pan m; cases pan <;> rfl
  | cons o l ih =>
    intro pan m
    rcases pan with _ | _ | p <;> simp only [rolesOf] <;> first | (split <;> simp [ih]) | simp

theorem tr_take {ops : Array Oper} {ds : List ADef} {l : List Oper} {ts : List AV} {es : List En} {out : DOut} (h : Tr E md ops ds l ts H es out) : ∀ (i : Nat) (e : En), es[i]? = some e → e.ts = finL (l.take i) ((es.map (·.v)).take i) ts := by
  induction h with
  | nil => intro i e h; simp at h
  | @cons o l ts H H' v es out h hs k ih =>
    intro i e he
    cases i with
    | zero => simp at he; subst he; simp [finL]
    | succ i =>
      simp only [List.getElem?_cons_succ] at he
      have := ih i e he
      simp only [List.take_succ_cons, List.map_cons, finL]
      rw [this]
      congr 1
  | panic h =>
    intro i e he
    cases i with
    | zero => simp at he; subst he; simp [finL]
    | succ i => simp at he

theorem tr_len {ops : Array Oper} {ds : List ADef} {l : List Oper} {ts : List AV} {es : List En} {out : DOut} (h : Tr E md ops ds l ts H es out) : es.length ≤ l.length := by
  induction h with
  | nil => simp
  | cons h hs k ih => simpa using ih
  | panic h => simp

theorem tr_normal {ops : Array Oper} {ds : List ADef} {l : List Oper} {ts : List AV} {es : List En} {out : DOut} (h : Tr E md ops ds l ts H es out) : ∀ {ts2 : List AV} {H2 : List AO}, out = .normal ts2 H2 → es.length = l.length ∧ finL l (es.map (·.v)) ts = ts2 := by
  induction h with
  | nil => intro ts2 H2 e; injection e with e1 e2; subst e1; exact ⟨rfl, rfl⟩
  | @cons o l ts H H' v es out h hs k ih =>
    intro ts2 H2 e
    obtain ⟨h1, h2⟩ := ih e
    exact ⟨by simp [h1], by simp only [List.map_cons, finL]; exact h2⟩
  | panic h => intro ts2 H2 e; simp at e

theorem tr_ent {ops : Array Oper} {ds : List ADef} {l : List Oper} {ts : List AV} {es : List En} {out : DOut} (h : Tr E md ops ds l ts H es out) : ∀ (i : Nat) (o : Oper) (e : En), l[i]? = some o → es[i]? = some e → panOf 0 es out ≠ some i → Ent E md ops ds o e.ts e.H e.v e.H' ∧ (stepOp md o = false → e.H' = e.H) := by
  induction h with
  | nil => intro i o e h; simp at h
  | @cons o l ts H H' v es out h hs k ih =>
    intro i o' e ho he hp
    cases i with
    | zero => simp at ho he; subst ho; subst he; exact ⟨h, hs⟩
    | succ i =>
      simp only [List.getElem?_cons_succ] at ho he
      refine ih i o' e ho he ?_
      intro hh
      apply hp
      cases out with
      | normal => simp [panOf] at hh
      | panic ch H2 =>
        simp only [panOf, List.length_cons, Option.some.injEq] at hh ⊢
        cases es with
        | nil => simp at he
        | cons => simp at hh ⊢; omega
  | panic h =>
    intro i o e ho he hp
    cases i with
    | zero => simp [panOf] at hp
    | succ i => simp at he

theorem tr_pan {ops : Array Oper} {ds : List ADef} {l : List Oper} {ts : List AV} {es : List En} {out : DOut} (h : Tr E md ops ds l ts H es out) : ∀ (i : Nat) (o : Oper) (e : En), l[i]? = some o → es[i]? = some e → panOf 0 es out = some i → ∃ ch, out = .panic ch out.heap ∧ EntP E ops ds o e.ts e.H ch out.heap := by
  induction h with
  | nil => intro i o e h; simp at h
  | @cons o l ts H H' v es out h hs k ih =>
    intro i o' e ho he hp
    cases out with
    | normal => simp [panOf] at hp
    | panic ch H2 =>
      simp only [panOf, List.length_cons, Option.some.injEq] at hp
      cases i with
      | zero => cases k <;> simp at hp
      | succ i =>
        simp only [List.getElem?_cons_succ] at ho he
        refine ih i o' e ho he ?_
        simp only [panOf, Option.some.injEq]
        omega
  | @panic o l ts H H' ch h =>
    intro i o' e ho he hp
    cases i with
    | zero => simp at ho he; subst ho; subst he; exact ⟨ch, rfl, h⟩
    | succ i => simp at he

theorem hs_zero {ops : Array Oper} {ds : List ADef} {l : List Oper} {ts : List AV} {es : List En} {out : DOut} (h : Tr E md ops ds l ts H es out) : (hsOf md l es out.heap).getD 0 out.heap = H := by
  induction h with
  | nil => simp [hsOf, DOut.heap]
  | @cons o l ts H H' v es out h hs k ih =>
    simp only [hsOf]
    split
    · simp
    · rename_i hn
      rw [ih]; exact hs (by simpa using hn)
  | panic h => simp [hsOf, EntP.step (md := md) h]

/-- The roles and the heaps fit. -/
theorem hs_at {ops : Array Oper} {ds : List ADef} {l : List Oper} {ts : List AV} {es : List En} {out : DOut} (h : Tr E md ops ds l ts H es out) : ∀ (m0 i m : Nat) (e : En), es[i]? = some e →
    ((rolesOf md (panOf 0 es out) l m0).getD i .pure = .step m → m0 ≤ m ∧ (hsOf md l es out.heap).getD (m - m0) out.heap = e.H ∧ (hsOf md l es out.heap).getD (m + 1 - m0) out.heap = e.H') ∧
    ((rolesOf md (panOf 0 es out) l m0).getD i .pure = .panics m → m0 ≤ m ∧ panOf 0 es out = some i ∧ (hsOf md l es out.heap).getD (m - m0) out.heap = e.H) := by
  induction h with
  | nil => intro m0 i m e h; simp at h
  | @cons o l ts H H' v es out h hs k ih =>
    intro m0 i m e he
    have hz := hs_zero k
    have key : ∀ pan, (pan = none → panOf 0 (⟨ts, H, v, H'⟩ :: es) out = none) → (pan = panOf 0 es out) →
        rolesOf md (panOf 0 (⟨ts, H, v, H'⟩ :: es) out) (o :: l) m0 = if stepOp md o then .step m0 :: rolesOf md pan l (m0 + 1) else .pure :: rolesOf md pan l m0 := by
      intro pan h1 h2
      cases out with
      | normal => subst h2; simp only [panOf, rolesOf]
      | panic ch H2 =>
        subst h2
        cases es with
        | nil => cases k
        | cons e0 es => simp only [panOf, List.length_cons]; rw [show 0 + (es.length + 1 + 1) - 1 = (0 + (es.length + 1) - 1) + 1 by omega]; simp only [rolesOf]
    rw [key (panOf 0 es out) (fun h => by cases out <;> simp [panOf] at h ⊢) rfl]
    cases i with
    | zero =>
      simp at he; subst he
      split
      · rename_i hst
        refine ⟨fun hr => ?_, fun hr => by simp at hr⟩
        simp at hr; subst hr
        simp only [hsOf, if_pos hst, Nat.sub_self, List.getD_cons_zero]
        refine ⟨Nat.le_refl _, trivial, ?_⟩
        rw [show m0 + 1 - m0 = 0 + 1 by omega, List.getD_cons_succ]; exact hz
      · exact ⟨fun hr => by simp at hr, fun hr => by simp at hr⟩
    | succ i =>
      simp only [List.getElem?_cons_succ] at he
      have pan_succ : panOf 0 es out = some i → panOf 0 (⟨ts, H, v, H'⟩ :: es) out = some (i + 1) := by
        cases out with
        | normal => simp [panOf]
        | panic ch H2 =>
          cases es with
          | nil => simp at he
          | cons e0 es => simp only [panOf, List.length_cons, Option.some.injEq]; omega
      split
      · rename_i hst
        simp only [List.getD_cons_succ, hsOf, if_pos hst]
        obtain ⟨h1, h2⟩ := ih (m0 + 1) i m e he
        refine ⟨fun hr => ?_, fun hr => ?_⟩
        · obtain ⟨h3, h4, h5⟩ := h1 hr
          refine ⟨by omega, ?_, ?_⟩
          · rw [show m - m0 = (m - (m0 + 1)) + 1 by omega, List.getD_cons_succ]; exact h4
          · rw [show m + 1 - m0 = (m + 1 - (m0 + 1)) + 1 by omega, List.getD_cons_succ]; exact h5
        · obtain ⟨h3, h4, h5⟩ := h2 hr
          refine ⟨by omega, pan_succ h4, ?_⟩
          rw [show m - m0 = (m - (m0 + 1)) + 1 by omega, List.getD_cons_succ]; exact h5
      · rename_i hst
        simp only [List.getD_cons_succ, hsOf, if_neg hst]
        obtain ⟨h1, h2⟩ := ih m0 i m e he
        exact ⟨h1, fun hr => ⟨(h2 hr).1, pan_succ (h2 hr).2.1, (h2 hr).2.2⟩⟩
  | @panic o l ts H H' ch h =>
    intro m0 i m e he
    cases i with
    | zero =>
      simp at he; subst he
      refine ⟨fun hr => by simp [panOf, rolesOf] at hr, fun hr => ?_⟩
      simp [panOf, rolesOf] at hr
      subst hr
      refine ⟨Nat.le_refl _, by simp [panOf], ?_⟩
      simp [hsOf, EntP.step (md := md) h]
    | succ i => simp at he

/-- Roles of operations: what never comes lies behind what is told. -/
theorem role_told {ops : Array Oper} {ds : List ADef} {l : List Oper} {ts : List AV} {es : List En} {out : DOut} (h : Tr E md ops ds l ts H es out) : ∀ (m0 i : Nat) (o : Oper), l[i]? = some o → (rolesOf md (panOf 0 es out) l m0).getD i .pure = .never ∨ (∃ e, es[i]? = some e ∧ ((rolesOf md (panOf 0 es out) l m0).getD i .pure = .pure → stepOp md o = false ∧ panOf 0 es out ≠ some i) ∧ ∀ m, (rolesOf md (panOf 0 es out) l m0).getD i .pure = .step m → panOf 0 es out ≠ some i) := by
  induction h with
  | nil => intro m0 i o h; simp at h
  | @cons o l ts H H' v es out h hs k ih =>
    intro m0 i o' ho
    have key : rolesOf md (panOf 0 (⟨ts, H, v, H'⟩ :: es) out) (o :: l) m0 = if stepOp md o then .step m0 :: rolesOf md (panOf 0 es out) l (m0 + 1) else .pure :: rolesOf md (panOf 0 es out) l m0 := by
      cases out with
      | normal => simp only [panOf, rolesOf]
      | panic ch H2 =>
        cases es with
        | nil => cases k
        | cons e0 es => simp only [panOf, List.length_cons]; rw [show 0 + (es.length + 1 + 1) - 1 = (0 + (es.length + 1) - 1) + 1 by omega]; simp only [rolesOf]
    have pan0 : panOf 0 (⟨ts, H, v, H'⟩ :: es) out ≠ some 0 := by
      cases out with
      | normal => simp [panOf]
      | panic ch H2 =>
        cases es with
        | nil => cases k
        | cons e0 es => simp [panOf]
    have panS : ∀ i, panOf 0 es out ≠ some i → panOf 0 (⟨ts, H, v, H'⟩ :: es) out ≠ some (i + 1) := by
      intro i hh
      cases out with
      | normal => simp [panOf]
      | panic ch H2 =>
        cases es with
        | nil => cases k
        | cons e0 es => simp only [panOf, List.length_cons, ne_eq, Option.some.injEq] at hh ⊢; omega
    rw [key]
    cases i with
    | zero =>
      simp at ho; subst ho
      right
      refine ⟨_, rfl, ?_, fun m _ => pan0⟩
      split
      · intro hr; simp at hr
      · rename_i hst
        intro _
        exact ⟨by simpa using hst, pan0⟩
    | succ i =>
      simp only [List.getElem?_cons_succ] at ho
      split
      · simp only [List.getD_cons_succ, List.getElem?_cons_succ]
        rcases ih (m0 + 1) i o' ho with h | ⟨e, h1, h2, h3⟩
        · exact .inl h
        · exact .inr ⟨e, h1, fun hr => ⟨(h2 hr).1, panS i (h2 hr).2⟩, fun m hr => panS i (h3 m hr)⟩
      · simp only [List.getD_cons_succ, List.getElem?_cons_succ]
        rcases ih m0 i o' ho with h | ⟨e, h1, h2, h3⟩
        · exact .inl h
        · exact .inr ⟨e, h1, fun hr => ⟨(h2 hr).1, panS i (h2 hr).2⟩, fun m hr => panS i (h3 m hr)⟩
  | @panic o l ts H H' ch h =>
    intro m0 i o' ho
    cases i with
    | zero =>
      right
      refine ⟨_, rfl, fun hr => by simp [panOf, rolesOf] at hr, fun m hr => by simp [panOf, rolesOf] at hr⟩
    | succ i =>
      left
      simp only [List.getElem?_cons_succ] at ho
      have := (List.getElem?_eq_some_iff.1 ho).1
      simp [panOf, rolesOf, List.getD_eq_getElem?_getD, this]

end Go.Ab

/- The abstract view, 26: regions whose order is drawn, told in the order of the text: the rule. -/
set_option linter.unusedVariables false
set_option linter.unusedSimpArgs false
namespace Go.Ab
open Go Go.RowKit

variable {E : Env} {N : Nat} {rd : Option Nat} {md : Nat → Nat} {Q : APost} {a b : AAct} {H H2 : List AO}

def Role.isStep : Role → Bool
  | .step _ => true
  | _ => false

theorem nSteps_eq (roles : List Role) : nSteps roles = (roles.filter Role.isStep).length := by
  unfold nSteps
  congr 2

theorem nSteps_succ (roles : List Role) (i : Nat) : nSteps (roles.take (i + 1)) = nSteps (roles.take i) + (if (roles.getD i .pure).isStep then 1 else 0) := by
  simp only [nSteps_eq]
  by_cases h : i < roles.length
  · rw [List.take_succ_eq_append_getElem h, List.filter_append, List.length_append]
    congr 1
    rw [List.getD_eq_getElem?_getD, List.getElem?_eq_getElem h]
    simp only [Option.getD_some, List.filter_cons, List.filter_nil]
    split <;> rfl
  · rw [List.take_of_length_le (by omega), List.take_of_length_le (by omega), List.getD_eq_getElem?_getD, List.getElem?_eq_none (by omega)]
    simp [Role.isStep]

theorem steps_before {roles : List Role} (hnum : ∀ j m, roles.getD j .pure = .step m → m = nSteps (roles.take j)) : ∀ i, 0 < nSteps (roles.take i) → ∃ j, j < i ∧ roles.getD j .pure = .step (nSteps (roles.take i) - 1) := by
  intro i
  induction i with
  | zero => intro h; simp [nSteps] at h
  | succ i ih =>
    intro h
    rw [nSteps_succ] at h ⊢
    cases hr : roles.getD i .pure with
    | step m =>
      have := hnum i m hr
      refine ⟨i, by omega, ?_⟩
      simp only [Role.isStep, if_true]
      rw [hr, this]; congr 1
    | _ =>
      rw [hr] at h
      simp only [Role.isStep, Bool.false_eq_true, if_false, Nat.add_zero] at h ⊢
      obtain ⟨j, h1, h2⟩ := ih h
      exact ⟨j, by omega, h2⟩

theorem steps_after {roles : List Role} (hnum : ∀ j m, roles.getD j .pure = .step m → m = nSteps (roles.take j)) : ∀ d i, roles.length ≤ i + d → nSteps (roles.take i) < nSteps roles → ∃ j, i ≤ j ∧ roles.getD j .pure = .step (nSteps (roles.take i)) := by
  intro d
  induction d with
  | zero => intro i h1 h2; rw [List.take_of_length_le (by omega)] at h2; omega
  | succ d ih =>
    intro i h1 h2
    have hs := nSteps_succ roles i
    cases hr : roles.getD i .pure with
    | step m =>
      have := hnum i m hr
      exact ⟨i, Nat.le_refl _, by rw [hr, this]⟩
    | _ =>
      rw [hr] at hs
      simp only [Role.isStep, Bool.false_eq_true, if_false, Nat.add_zero] at hs
      obtain ⟨j, h3, h4⟩ := ih (i + 1) (by omega) (by omega)
      exact ⟨j, by omega, by rw [h4, hs]⟩

theorem nSteps_cons (r : Role) (rs : List Role) : nSteps (r :: rs) = (if r.isStep then 1 else 0) + nSteps rs := by
  simp only [nSteps_eq, List.filter_cons]
  split <;> simp <;> omega

theorem rolesOf_num (md : Nat → Nat) : ∀ (l : List Oper) (pan : Option Nat) (m0 j m : Nat), (rolesOf md pan l m0).getD j .pure = .step m → m = m0 + nSteps ((rolesOf md pan l m0).take j) := by
  intro l
  induction l with
  | nil => intro pan m0 j m h; rcases pan with _ | _ | p <;> simp [rolesOf] at h
  | cons o l ih =>
    have two : ∀ (pan : Option Nat) (m0 j m : Nat), (if stepOp md o then Role.step m0 :: rolesOf md pan l (m0 + 1) else Role.pure :: rolesOf md pan l m0).getD j .pure = .step m → m = m0 + nSteps ((if stepOp md o then Role.step m0 :: rolesOf md pan l (m0 + 1) else Role.pure :: rolesOf md pan l m0).take j) := by
      intro pan m0 j m h
      split at h
      · rename_i hs
        rw [if_pos hs]
        cases j with
        | zero => simp at h; subst h; simp [nSteps]
        | succ j => simp only [List.getD_cons_succ] at h; have := ih _ _ _ _ h; rw [List.take_succ_cons, nSteps_cons]; simp only [Role.isStep, if_true]; omega
      · rename_i hs
        rw [if_neg hs]
        cases j with
        | zero => simp at h
        | succ j => simp only [List.getD_cons_succ] at h; have := ih _ _ _ _ h; rw [List.take_succ_cons, nSteps_cons]; simp only [Role.isStep, Bool.false_eq_true, if_false]; omega
    intro pan m0 j m h
    rcases pan with _ | _ | p
    · exact two none m0 j m h
    · exfalso
      cases j with
      | zero => simp [rolesOf] at h
      | succ j =>
        simp only [rolesOf, List.getD_eq_getElem?_getD, List.getElem?_cons_succ, List.getElem?_map] at h
        rcases hh : l[j]? with _ | x <;> rw [hh] at h <;> simp at h
    · exact two (some p) m0 j m h

theorem hs_pure {ops : Array Oper} {ds : List ADef} {l : List Oper} {ts : List AV} {es : List En} {out : DOut} (h : Tr E md ops ds l ts H es out) : ∀ (m0 i : Nat) (e : En), es[i]? = some e → (rolesOf md (panOf 0 es out) l m0).getD i .pure = .pure →
    (hsOf md l es out.heap).getD (nSteps ((rolesOf md (panOf 0 es out) l m0).take i)) out.heap = e.H := by
  induction h with
  | nil => intro m0 i e h; simp at h
  | @cons o l ts H H' v es out h hs k ih =>
    intro m0 i e he hr
    have hz := hs_zero (Tr.cons h hs k)
    have key : rolesOf md (panOf 0 (⟨ts, H, v, H'⟩ :: es) out) (o :: l) m0 = if stepOp md o then .step m0 :: rolesOf md (panOf 0 es out) l (m0 + 1) else .pure :: rolesOf md (panOf 0 es out) l m0 := by
      cases out with
      | normal => simp only [panOf, rolesOf]
      | panic ch H2 =>
        cases es with
        | nil => cases k
        | cons e0 es => simp only [panOf, List.length_cons]; rw [show 0 + (es.length + 1 + 1) - 1 = (0 + (es.length + 1) - 1) + 1 by omega]; simp only [rolesOf]
    rw [key] at hr ⊢
    cases i with
    | zero =>
      simp at he; subst he
      simp only [List.take_zero]
      exact hz
    | succ i =>
      simp only [List.getElem?_cons_succ] at he
      split at hr
      · rename_i hst
        rw [if_pos hst, List.take_succ_cons, nSteps_cons]
        simp only [hsOf, if_pos hst, Role.isStep, if_true]
        rw [Nat.add_comm, List.getD_cons_succ]
        exact ih _ i e he (by simpa using hr)
      · rename_i hst
        rw [if_neg hst, List.take_succ_cons, nSteps_cons]
        simp only [hsOf, if_neg hst, Role.isStep, Bool.false_eq_true, if_false, Nat.zero_add]
        exact ih _ i e he (by simpa using hr)
  | @panic o l ts H H' ch h =>
    intro m0 i e he hr
    cases i with
    | zero => simp [panOf, rolesOf] at hr
    | succ i => simp at he

theorem ancT_lt {ops : Array Oper} {n : Nat} (hR : okR ops n = true) : ∀ i, ∀ j ∈ (ancT ops.toList []).getD i [], j < i := by
  have hed : ∀ i o, ops[i]? = some o → ∀ j ∈ edgesOf o, j < i := by
    intro i o ho j hj
    have hlt := (Array.getElem?_eq_some_iff.1 ho).1
    have := List.all_eq_true.1 hR i (List.mem_range.2 hlt)
    rw [ho] at this
    simp only [Bool.and_eq_true] at this
    simpa using List.all_eq_true.1 this.1.1 j hj
  have key : ∀ (l : List Oper) (T : List (List Nat)) (k : Nat), T.length = k → (∀ i, ops[k + i]? = l[i]?) → (∀ i, ∀ j ∈ T.getD i [], j < i) → ∀ i, ∀ j ∈ (ancT l T).getD i [], j < i := by
    intro l
    induction l with
    | nil => intro T k hk hl hT; exact hT
    | cons o' l ih =>
      intro T k hk hl hT
      refine ih (T ++ [anc1 T (edgesOf o')]) (k + 1) (by simp [hk]) (fun i => ?_) ?_
      · have := hl (i + 1); rw [show k + 1 + i = k + (i + 1) by omega, this]; rfl
      · intro i j hj
        by_cases h : i < k
        · rw [List.getD_eq_getElem?_getD, List.getElem?_append_left (by omega), ← List.getD_eq_getElem?_getD] at hj
          exact hT i j hj
        · by_cases h2 : i = k
          · subst h2
            rw [List.getD_eq_getElem?_getD, List.getElem?_append_right (by omega), hk, Nat.sub_self] at hj
            simp only [List.getElem?_cons_zero, Option.getD_some] at hj
            have h0 := hl 0
            rw [Nat.add_zero] at h0
            simp only [List.getElem?_cons_zero] at h0
            rcases mem_anc1 _ _ _ hj with h1 | ⟨j', h1, h3⟩
            · exact hed i o' h0 j h1
            · have e1 := hed i o' h0 j' h1
              have e2 := hT j' j h3
              omega
          · rw [List.getD_eq_getElem?_getD, List.getElem?_eq_none (by simp; omega)] at hj; simp at hj
  exact key ops.toList [] 0 rfl (fun i => by simp) (fun i j h => by simp at h)

/-- What only looks at memory comes in a settled order with what turns it; the steps that are named leave it as it is. -/
def okS (md : Nat → Nat) (ops : Array Oper) (pan : Option Nat) (same : List Nat) : Bool :=
  let T := ancT ops.toList []
  let roles := rolesOf md pan ops.toList 0
  (List.range ops.size).all fun i => match ops[i]? with
    | some o => !(readerOp o.op) || stepOp md o || (List.range ops.size).all fun j => match roles.getD j .pure with
      | .step _ => (T.getD i []).contains j || (T.getD j []).contains i || same.contains j
      | _ => true
    | none => true

def hsAt (md : Nat → Nat) (l : List Oper) (es : List En) (out : DOut) (k : Nat) : List AO := (hsOf md l es out.heap).getD (min k (nSteps (rolesOf md (panOf 0 es out) l 0))) out.heap

theorem step_ex {roles : List Role} (hnum : ∀ j m, roles.getD j .pure = .step m → m = nSteps (roles.take j)) (m : Nat) (h : m < nSteps roles) : ∃ j, roles.getD j .pure = .step m := by
  have key : ∀ q, m < nSteps (roles.take q) → ∃ j, roles.getD j .pure = .step m := by
    intro q
    induction q with
    | zero => intro hq; simp [nSteps] at hq
    | succ q ih =>
      intro hq
      by_cases h7 : m < nSteps (roles.take q)
      · exact ih h7
      · rw [nSteps_succ] at hq
        cases hrq : roles.getD q .pure with
        | step m' =>
          have := hnum q m' hrq
          refine ⟨q, ?_⟩
          rw [hrq] at hq; simp only [Role.isStep, if_true] at hq
          rw [hrq]; congr 1; omega
        | _ => rw [hrq] at hq; simp [Role.isStep] at hq; omega
  exact key roles.length (by rw [List.take_of_length_le (Nat.le_refl _)]; exact h)

theorem allowed_at {ops : Array Oper} {l : List Oper} (hl : ops = l.toArray) {ds : List ADef} {ts : List AV} {es : List En} {out : DOut} (h : Tr E md ops ds l ts H es out) {n : Nat} (hR : okR ops n = true) {same : List Nat} (hsame : ∀ j ∈ same, ∃ e, es[j]? = some e ∧ e.H' = e.H) (hS : okS md ops (panOf 0 es out) same = true) {i k : Nat} {o : Oper} {e : En} (ho : l[i]? = some o) (he : es[i]? = some e)
    (hr : readerOp o.op = true) (hs : stepOp md o = false) (hp : (rolesOf md (panOf 0 es out) l 0).getD i .pure = .pure) (ha : allowed (ancT ops.toList []) ops.size (rolesOf md (panOf 0 es out) l 0) i k = true) : hsAt md l es out k = e.H := by
  have hnum : ∀ j m, (rolesOf md (panOf 0 es out) l 0).getD j .pure = .step m → m = nSteps ((rolesOf md (panOf 0 es out) l 0).take j) := fun j m h => by have := rolesOf_num md l (panOf 0 es out) 0 j m h; omega
  have hlen := rolesOf_len md l (panOf 0 es out) 0
  have hpure := hs_pure h 0 i e he hp
  have hil := (List.getElem?_eq_some_iff.1 ho).1
  have hsz : ops.size = l.length := by subst hl; simp
  have hlist : ops.toList = l := by subst hl; simp
  have hSi := List.all_eq_true.1 hS i (List.mem_range.2 (by omega))
  have hoi : ops[i]? = some o := by subst hl; simpa using ho
  rw [hoi] at hSi
  simp only [hr, hs, Bool.not_true, Bool.false_or, hlist] at hSi
  have hat := fun m j e2 (he2 : es[j]? = some e2) => (hs_at h 0 j m e2 he2).1
  have hstepe : ∀ j m, (rolesOf md (panOf 0 es out) l 0).getD j .pure = .step m → ∃ e2, es[j]? = some e2 := by
    intro j m hj
    have hjl : j < l.length := by
      by_cases hh : j < l.length
      · exact hh
      · rw [List.getD_eq_getElem?_getD, List.getElem?_eq_none (by omega)] at hj; simp at hj
    rcases role_told h 0 j l[j] (List.getElem?_eq_getElem hjl) with h1 | ⟨e2, h1, _⟩
    · rw [h1] at hj; simp at hj
    · exact ⟨e2, h1⟩
  generalize hroles : rolesOf md (panOf 0 es out) l 0 = roles at *
  -- a step that is not settled against i leaves the heap
  have conn : ∀ j m, roles.getD j .pure = .step m → (j < i → k ≤ m → (hsOf md l es out.heap).getD (m + 1) out.heap = (hsOf md l es out.heap).getD m out.heap) ∧ (i < j → m < k → (hsOf md l es out.heap).getD (m + 1) out.heap = (hsOf md l es out.heap).getD m out.heap) := by
    intro j m hj
    have hjlt : j < ops.size := by
      by_cases hh : j < ops.size
      · exact hh
      · rw [List.getD_eq_getElem?_getD, List.getElem?_eq_none (by omega)] at hj; simp at hj
    have h1 := List.all_eq_true.1 hSi j (List.mem_range.2 hjlt)
    have h2 := List.all_eq_true.1 ha j (List.mem_range.2 hjlt)
    rw [hj] at h1 h2
    rw [hlist] at h2
    have hlt := ancT_lt hR
    rw [hlist] at hlt
    simp only [Bool.or_eq_true, Bool.and_eq_true, Bool.not_eq_true', decide_eq_true_eq] at h1 h2
    have flat : same.contains j = true → (hsOf md l es out.heap).getD (m + 1) out.heap = (hsOf md l es out.heap).getD m out.heap := by
      intro hc
      obtain ⟨e2, q1, q2⟩ := hsame j (by simpa using hc)
      obtain ⟨_, q3, q4⟩ := hat m j e2 q1 hj
      simp only [Nat.sub_zero] at q3 q4
      rw [q3, q4, q2]
    rcases h1 with (h1 | h1) | h1
    · have := hlt i j (by simpa using h1)
      have h3 := h2.1.resolve_left (by rw [h1]; simp)
      exact ⟨fun _ hk => by omega, fun hh => by omega⟩
    · have := hlt j i (by simpa using h1)
      have h3 := h2.2.resolve_left (by rw [h1]; simp)
      exact ⟨fun hh => by omega, fun _ hk => by omega⟩
    · exact ⟨fun _ _ => flat h1, fun _ _ => flat h1⟩
  have hmono : ∀ p q, p ≤ q → nSteps (roles.take p) ≤ nSteps (roles.take q) := by
    intro p q hpq
    induction hpq with
    | refl => exact Nat.le_refl _
    | step _ ih => exact Nat.le_trans ih (by rw [nSteps_succ]; omega)
  have hle : nSteps (roles.take i) ≤ nSteps roles := by
    simp only [nSteps_eq]
    exact ((List.take_sublist i roles).filter _).length_le
  -- where a step with a number stands
  have side : ∀ j m, roles.getD j .pure = .step m → (m < nSteps (roles.take i) → j < i) ∧ (nSteps (roles.take i) ≤ m → i < j) := by
    intro j m hj
    have hm := hnum j m hj
    refine ⟨fun hlt => ?_, fun hge => ?_⟩
    · by_cases hh : j < i
      · exact hh
      · have := hmono i j (by omega); omega
    · by_cases hh : i < j
      · exact hh
      · have hne : j ≠ i := by rintro rfl; rw [hp] at hj; simp at hj
        have := hmono (j + 1) i (by omega)
        rw [nSteps_succ, hj] at this
        simp only [Role.isStep, if_true] at this
        omega
  -- walking from i's own place
  have up : ∀ d, nSteps (roles.take i) + d ≤ min k (nSteps roles) → (hsOf md l es out.heap).getD (nSteps (roles.take i) + d) out.heap = e.H := by
    intro d
    induction d with
    | zero => intro _; exact hpure
    | succ d ih =>
      intro hd
      obtain ⟨j, hj⟩ := step_ex hnum (nSteps (roles.take i) + d) (by omega)
      have := (conn j _ hj).2 ((side j _ hj).2 (by omega)) (by omega)
      rw [show nSteps (roles.take i) + (d + 1) = nSteps (roles.take i) + d + 1 by omega, this]
      exact ih (by omega)
  have down : ∀ d, d ≤ nSteps (roles.take i) → k ≤ nSteps (roles.take i) - d → (hsOf md l es out.heap).getD (nSteps (roles.take i) - d) out.heap = e.H := by
    intro d
    induction d with
    | zero => intro _ _; exact hpure
    | succ d ih =>
      intro hd hk
      obtain ⟨j, hj⟩ := step_ex hnum (nSteps (roles.take i) - (d + 1)) (by omega)
      have := (conn j _ hj).1 ((side j _ hj).1 (by omega)) (by omega)
      rw [← this, show nSteps (roles.take i) - (d + 1) + 1 = nSteps (roles.take i) - d by omega]
      exact ih (by omega) (by omega)
  unfold hsAt
  rw [hroles]
  rcases Nat.lt_or_ge (min k (nSteps roles)) (nSteps (roles.take i)) with hlt | hge
  · have := down (nSteps (roles.take i) - min k (nSteps roles)) (by omega) (by omega)
    rwa [show nSteps (roles.take i) - (nSteps (roles.take i) - min k (nSteps roles)) = min k (nSteps roles) by omega] at this
  · have := up (min k (nSteps roles) - nSteps (roles.take i)) (by omega)
    rwa [show nSteps (roles.take i) + (min k (nSteps roles) - nSteps (roles.take i)) = min k (nSteps roles) by omega] at this

/-- What is asked at the end. -/
def DFin (Q : APost) (ds : List ADef) : DOut → Prop
  | .normal ts H => Q .normal ⟨ts, ds⟩ H
  | .panic ch H => ∀ ts, Q (.panic ch) ⟨ts, ds⟩ H

theorem know_agree {ops : Array Oper} {ds : List ADef} {l : List Oper} (hl : ops = l.toArray) {ts0 : List AV} {es : List En} {out : DOut} (h : Tr E md ops ds l ts0 H es out) (hR : okR ops ts0.length = true) (hD : okD ops = true) {i : Nat} {o : Oper} {e : En} (ho : l[i]? = some o) (he : es[i]? = some e) :
    ∀ t ∈ tmpsOf ops o, e.ts.getD t .top = (applyK (ksOf ops i o ts0.length) ts0 (es.map (·.v))).getD t .top := by
  intro t ht
  have hil := (List.getElem?_eq_some_iff.1 ho).1
  have hsz : ops.size = l.length := by subst hl; simp
  have hop : ∀ k : Nat, ops[k]? = l[k]? := fun k => by subst hl; simp
  have hD1 := List.all_eq_true.1 hD i (List.mem_range.2 (by omega))
  rw [hop, ho] at hD1
  have hk := List.all_eq_true.1 hD1 t ht
  have hkl : (ksOf ops i o ts0.length).length = ts0.length := by simp [ksOf]
  have hte := tr_take h i e he
  have helt := (List.getElem?_eq_some_iff.1 he).1
  have hlen : ((es.map (·.v)).take i).length = (l.take i).length := by simp; omega
  have hed : ∀ i o, l[i]? = some o → (∀ j ∈ edgesOf o, j < i) ∧ (∀ d, o.dst = some d → d < ts0.length) ∧ ∀ j o2, l[j]? = some o2 → j ≠ i → o.dst ≠ none → o2.dst ≠ o.dst := by
    intro i o ho
    have hil := (List.getElem?_eq_some_iff.1 ho).1
    have := List.all_eq_true.1 hR i (List.mem_range.2 (by omega))
    rw [hop, ho] at this
    simp only [Bool.and_eq_true] at this
    refine ⟨fun j hj => by simpa using List.all_eq_true.1 this.1.1 j hj, fun d hd => ?_, fun j o2 hj hji hn he => ?_⟩
    · have := this.1.2; rw [hd] at this; simpa using this
    · have hjl := (List.getElem?_eq_some_iff.1 hj).1
      have := List.all_eq_true.1 this.2 j (List.mem_range.2 (by omega))
      simp only [Bool.or_eq_true, beq_iff_eq, Option.isNone_iff_eq_none, bne_iff_ne, ne_eq, dstOf, hop, hj, Option.bind_some] at this
      rcases this with (h1 | h1) | h1
      · exact hji h1
      · exact hn h1
      · exact h1 he
  by_cases htn : t < ts0.length
  · rw [applyK_get _ _ _ hkl t htn, ksOf_get _ _ _ _ _ htn]
    cases hf : (List.range ops.size).find? (fun j => dstOf ops j == some t && (edgesOf o).contains j) with
    | some j =>
      have hkk : knowK ops i o t = j + 2 := by simp only [knowK, hf]
      rw [hkk]
      have hj := List.find?_some hf
      simp only [Bool.and_eq_true, beq_iff_eq, List.contains_eq_mem, decide_eq_true_eq] at hj
      have hji := (hed i o ho).1 j hj.2
      have hjl : j < l.length := by omega
      have hoj : l[j]? = some l[j] := List.getElem?_eq_getElem hjl
      have hdj : (l[j]).dst = some t := by have := hj.1; simp only [dstOf, hop, hoj, Option.bind_some] at this; exact this
      rw [hte]
      have h1 := finL_in (l.take i) ((es.map (·.v)).take i) ts0 j t l[j] hlen (by rw [List.getElem?_take, if_pos hji]; exact hoj) hdj htn fun k o' hk hko hkd => by
        rw [List.getElem?_take] at hko
        split at hko
        · exact (hed j _ hoj).2.2 k o' hko hk (by rw [hdj]; simp) (by rw [hkd, hdj])
        · simp at hko
      rw [h1]
      simp only [List.getD_eq_getElem?_getD, List.getElem?_take, if_pos hji]
    | none =>
      by_cases hc : ((List.range ops.size).all fun j => dstOf ops j != some t || j == i || ((ops[j]?).map (fun o => (edgesOf o).contains i)).getD false) = true
      · have hkk : knowK ops i o t = 0 := by simp only [knowK, hf, if_pos hc]
        rw [hkk]
        rw [hte]
        refine finL_out _ _ _ t fun k o' hko hkd => ?_
        rw [List.getElem?_take] at hko
        split at hko
        · rename_i hki
          have := List.all_eq_true.1 hc k (List.mem_range.2 (by omega))
          simp only [dstOf, hop, hko, Option.bind_some, hkd, Option.map_some, Option.getD_some, bne_self_eq_false, Bool.false_or, Bool.or_eq_true, beq_iff_eq] at this
          rcases this with h1 | h1
          · omega
          · have := (hed k o' hko).1 i (by simpa using h1)
            omega
        · simp at hko
      · have hkk : knowK ops i o t = 1 := by simp only [knowK, hf, if_neg hc]
        rw [hkk] at hk; simp at hk
  · have e1 : e.ts.length = ts0.length := by rw [hte, finL_len]
    rw [List.getD_eq_getElem?_getD, List.getElem?_eq_none (by omega), List.getD_eq_getElem?_getD, List.getElem?_eq_none (by rw [applyK_len _ _ _ hkl]; omega)]

theorem dinv_final {l : List Oper} {ts0 vals : List AV} {ds : List ADef} {listed : Array Bool} (hR : okR l.toArray ts0.length = true) (hlen : vals.length = l.length) (hi : DInv l.toArray ts0 vals ds listed a) (hall : ∀ i, i < l.toArray.size → listed.getD i false = true) : a = ⟨finL l vals ts0, ds⟩ := by
  have hops : ∀ i : Nat, l.toArray[i]? = l[i]? := fun i => by simp
  obtain ⟨ts, ds'⟩ := a
  have h1 : ds' = ds := hi.defers
  subst h1
  congr 1
  have hl : ts.length = ts0.length := hi.len
  apply List.ext_getElem?
  intro t
  by_cases ht : t < ts.length
  · have e1 : ts[t]? = some (ts.getD t .top) := by rw [List.getD_eq_getElem?_getD, List.getElem?_eq_getElem ht]; rfl
    have e2 : (finL l vals ts0)[t]? = some ((finL l vals ts0).getD t .top) := by
      have : t < (finL l vals ts0).length := by rw [finL_len]; omega
      rw [List.getD_eq_getElem?_getD, List.getElem?_eq_getElem this]; rfl
    rw [e1, e2]
    congr 1
    by_cases hex : ∃ (i : Nat) (o : Oper), l[i]? = some o ∧ o.dst = some t
    · obtain ⟨i, o, hi1, hd⟩ := hex
      have hilt : i < l.toArray.size := by simpa using (List.getElem?_eq_some_iff.1 hi1).1
      have hdi : dstOf l.toArray i = some t := by unfold dstOf; rw [hops, hi1]; exact hd
      have h1 := hi.done i t (hall i hilt) hdi
      have hRi := List.all_eq_true.1 hR i (List.mem_range.2 hilt)
      rw [hops, hi1] at hRi
      simp only [Bool.and_eq_true] at hRi
      have h2 := finL_in l vals ts0 i t o hlen hi1 hd (by omega) fun j o' hj hjo hjd => by
        have hjlt : j < l.toArray.size := by simpa using (List.getElem?_eq_some_iff.1 hjo).1
        have := List.all_eq_true.1 hRi.2 j (List.mem_range.2 hjlt)
        have hdj : dstOf l.toArray j = some t := by unfold dstOf; rw [hops, hjo]; exact hjd
        rw [hdj, hd] at this
        simp at this
        exact hj this
      exact h1.trans h2.symm
    · have h1 := hi.kept t fun i hl1 hd => by
        unfold dstOf at hd
        rw [hops] at hd
        cases ho : l[i]? with
        | none => rw [ho] at hd; simp at hd
        | some o => rw [ho] at hd; exact hex ⟨i, o, ho, hd⟩
      have h2 := finL_out l vals ts0 t fun i o hi1 hd => hex ⟨i, o, hi1, hd⟩
      exact h1.trans h2.symm
  · rw [List.getElem?_eq_none (by omega), List.getElem?_eq_none (by rw [finL_len]; omega)]

/-- **A region whose order is drawn, told in the order of the text.** -/
theorem w_drawn {id : Nat} {l : List Oper} {ts0 : List AV} {ds : List ADef} {es : List En} {out : DOut} (hrd : ∀ l, rd = some l → l < N) (htr : Tr E md l.toArray ds l ts0 H es out) (hok : okPlan md l.toArray ts0.length (panOf 0 es out) = true)
    (hob : ∀ i o e, l[i]? = some o → es[i]? = some e → readerOp o.op = true → stepOp md o = false → (rolesOf md (panOf 0 es out) l 0).getD i .pure = .pure → ∀ k, allowed (ancT l []) l.length (rolesOf md (panOf 0 es out) l 0) i k = true → Ent E md l.toArray ds o e.ts (hsAt md l es out k) e.v (hsAt md l es out k))
    (hq : DFin Q ds out) : W E N rd md (.region id l.toArray true) Q ⟨ts0, ds⟩ H := by
  intro t
  simp only [okPlan, Bool.and_eq_true] at hok
  obtain ⟨⟨⟨hR, hD⟩, hP⟩, hN⟩ := hok
  have hlist : l.toArray.toList = l := by simp
  have hops : ∀ i : Nat, l.toArray[i]? = l[i]? := fun i => by simp
  have hlen := rolesOf_len md l (panOf 0 es out) 0
  have hP : okP (ancT l []) l.toArray.size (rolesOf md (panOf 0 es out) l 0) = true := hP
  have hN : okN l.toArray (rolesOf md (panOf 0 es out) l 0) (nSteps (rolesOf md (panOf 0 es out) l 0)) = true := hN
  have hstep : ∀ j m, (rolesOf md (panOf 0 es out) l 0).getD j .pure = .step m → m < nSteps (rolesOf md (panOf 0 es out) l 0) := by
    intro j m hj
    have hjlt : j < l.toArray.size := by
      by_cases hh : j < l.toArray.size
      · exact hh
      · rw [List.getD_eq_getElem?_getD, List.getElem?_eq_none (by simp at hh; omega)] at hj; simp at hj
    simp only [okN, Bool.and_eq_true] at hN
    have := List.all_eq_true.1 hN.1 j (List.mem_range.2 hjlt)
    rw [hj] at this
    simpa using this
  have hH0 : hsAt md l es out 0 = H := by
    unfold hsAt; rw [Nat.zero_min]; exact hs_zero htr
  have key := planned_sound (E := E) (N := N) (rd := rd) (md := md) (Q := Q) (ops := l.toArray) (ts0 := ts0) (vals := es.map (·.v)) (ds := ds) (roles := rolesOf md (panOf 0 es out) l 0) (Hs := hsAt md l es out) (n := nSteps (rolesOf md (panOf 0 es out) l 0)) hrd hR (by rw [hlist]; exact hP) hN (by rw [hlen]; simp) ?_ ?_ l.toArray.size t (Array.replicate l.toArray.size false) 0 ⟨ts0, ds⟩ ?_ ?_ ?_
  · rw [hH0] at key; exact key
  · intro i o hi
    rw [hops] at hi
    refine ⟨ksOf l.toArray i o ts0.length, okK_ksOf _ _ _ _, by simp [ksOf], ?_⟩
    rcases role_told htr 0 i o hi with h | ⟨e, he, hp, hst⟩
    · rw [h]; trivial
    · have hv : (es.map (·.v)).getD i .top = e.v := by simp [List.getD_eq_getElem?_getD, he]
      have hag := know_agree rfl htr hR hD hi he
      split
      · rename_i hr
        rw [hv]
        obtain ⟨h1, h2⟩ := hp hr
        intro k hk
        obtain ⟨hent, hsame⟩ := tr_ent htr i o e hi he h2
        refine Ent.dopg ?_
        by_cases hrd : readerOp o.op = true
        · exact (hob i o e hi he hrd h1 hr k (by rw [hlist] at hk; simpa using hk)).agree hag
        · exact (Ent.free (H2 := hsAt md l es out k) hent (by simpa using hrd) h1).2.agree hag
      · rename_i m hr
        rw [hv]
        obtain ⟨hent, _⟩ := tr_ent htr i o e hi he (hst m hr)
        obtain ⟨h1, _⟩ := hs_at htr 0 i m e he
        obtain ⟨_, h2, h3⟩ := h1 hr
        have hm := hstep i m hr
        refine Ent.dopg ?_
        have e1 : hsAt md l es out m = e.H := by unfold hsAt; rw [show min m (nSteps (rolesOf md (panOf 0 es out) l 0)) = m - 0 by omega]; exact h2
        have e2 : hsAt md l es out (m + 1) = e.H' := by unfold hsAt; rw [show min (m + 1) (nSteps (rolesOf md (panOf 0 es out) l 0)) = m + 1 - 0 by omega]; exact h3
        rw [e1, e2]
        exact hent.agree hag
      · rename_i m hr
        obtain ⟨_, h1⟩ := hs_at htr 0 i m e he
        obtain ⟨_, h2, h3⟩ := h1 hr
        obtain ⟨ch, ho, hent⟩ := tr_pan htr i o e hi he h2
        have hmn : m ≤ nSteps (rolesOf md (panOf 0 es out) l 0) := by
          have hnm : m = nSteps ((rolesOf md (panOf 0 es out) l 0).take i) := by
            have hil := (List.getElem?_eq_some_iff.1 hi).1
            rcases Nat.eq_zero_or_pos m with h | h
            · by_cases h0 : 0 < nSteps ((rolesOf md (panOf 0 es out) l 0).take i)
              · have hPi := List.all_eq_true.1 hP i (List.mem_range.2 (by simpa using hil))
                obtain ⟨j, hj1, hj2⟩ := steps_before (fun j m h => by have := rolesOf_num md l (panOf 0 es out) 0 j m h; omega) i h0
                rw [hr] at hPi
                simp only [Bool.and_eq_true] at hPi
                exfalso
                have hz := steps_before (roles := rolesOf md (panOf 0 es out) l 0) (fun j m h => by have := rolesOf_num md l (panOf 0 es out) 0 j m h; omega)
                -- the first step of all bears the number 0
                obtain ⟨j0, hj0, hj0'⟩ := steps_after (roles := rolesOf md (panOf 0 es out) l 0) (fun j m h => by have := rolesOf_num md l (panOf 0 es out) 0 j m h; omega) (rolesOf md (panOf 0 es out) l 0).length 0 (by omega) (by
                  have : nSteps ((rolesOf md (panOf 0 es out) l 0).take i) ≤ nSteps (rolesOf md (panOf 0 es out) l 0) := by
                    simp only [nSteps_eq]
                    exact ((List.take_sublist i _).filter _).length_le
                  simp only [List.take_zero]
                  have : nSteps [] = 0 := rfl
                  omega)
                simp only [List.take_zero] at hj0'
                have hj0l : j0 < l.toArray.size := by
                  by_cases hh : j0 < l.toArray.size
                  · exact hh
                  · rw [List.getD_eq_getElem?_getD, List.getElem?_eq_none (by simp at hh; omega)] at hj0'; simp at hj0'
                have := List.all_eq_true.1 hPi.2 j0 (List.mem_range.2 hj0l)
                rw [hj0'] at this
                have hne : j0 ≠ i := by rintro rfl; rw [hr] at hj0'; simp at hj0'
                have e0 : nSteps [] = 0 := rfl
                subst h
                simp [e0, hne] at this
              · omega
            · have hPi := List.all_eq_true.1 hP i (List.mem_range.2 (by simpa using (List.getElem?_eq_some_iff.1 hi).1))
              rw [hr] at hPi
              simp only [Bool.and_eq_true, Bool.or_eq_true, beq_iff_eq] at hPi
              have hany := hPi.1.resolve_left (by omega)
              obtain ⟨j, hj1, hj2⟩ := List.any_eq_true.1 hany
              have hj2 : (rolesOf md (panOf 0 es out) l 0).getD j .pure = .step (m - 1) := by simpa using hj2
              have hlt1 := hstep j _ hj2
              -- the next step, if there is one before i, bears the number m
              have hnum : ∀ j m, (rolesOf md (panOf 0 es out) l 0).getD j .pure = .step m → m = nSteps ((rolesOf md (panOf 0 es out) l 0).take j) := fun j m h => by have := rolesOf_num md l (panOf 0 es out) 0 j m h; omega
              have hjn := hnum j _ hj2
              have hji := ancT_lt hR i j (by rw [hlist]; exact hj1)
              have hmono : ∀ p q, p ≤ q → nSteps ((rolesOf md (panOf 0 es out) l 0).take p) ≤ nSteps ((rolesOf md (panOf 0 es out) l 0).take q) := by
                intro p q hpq
                induction hpq with
                | refl => exact Nat.le_refl _
                | step _ ih => exact Nat.le_trans ih (by rw [nSteps_succ]; omega)
              have hge : m ≤ nSteps ((rolesOf md (panOf 0 es out) l 0).take i) := by
                have h5 := hmono (j + 1) i (by omega)
                rw [nSteps_succ, hj2] at h5
                simp only [Role.isStep, if_true] at h5
                omega
              by_cases heq : m = nSteps ((rolesOf md (panOf 0 es out) l 0).take i)
              · exact heq
              · exfalso
                -- a step that bears the number m stands before i
                have h6 : ∀ q, m < nSteps ((rolesOf md (panOf 0 es out) l 0).take q) → ∃ j, j < q ∧ (rolesOf md (panOf 0 es out) l 0).getD j .pure = .step m := by
                  intro q
                  induction q with
                  | zero => intro hq; simp [nSteps] at hq
                  | succ q ih =>
                    intro hq
                    by_cases h7 : m < nSteps ((rolesOf md (panOf 0 es out) l 0).take q)
                    · obtain ⟨j, h8, h9⟩ := ih h7; exact ⟨j, by omega, h9⟩
                    · rw [nSteps_succ] at hq
                      cases hrq : (rolesOf md (panOf 0 es out) l 0).getD q .pure with
                      | step m' => have := hnum q m' hrq; exact ⟨q, by omega, by rw [hrq]; congr 1; rw [hrq] at hq; simp only [Role.isStep, if_true] at hq; omega⟩
                      | _ => rw [hrq] at hq; simp [Role.isStep] at hq; omega
                obtain ⟨j3, h8, h9⟩ := h6 i (by omega)
                have hj3 : j3 < l.toArray.size := by
                  by_cases hh : j3 < l.toArray.size
                  · exact hh
                  · rw [List.getD_eq_getElem?_getD, List.getElem?_eq_none (by simp at hh; omega)] at h9; simp at h9
                have := List.all_eq_true.1 hPi.2 j3 (List.mem_range.2 hj3)
                rw [h9] at this
                simp at this
                omega
          rw [hnm]
          simp only [nSteps_eq]
          exact ((List.take_sublist i _).filter _).length_le
        have e1 : hsAt md l es out m = e.H := by unfold hsAt; rw [show min m (nSteps (rolesOf md (panOf 0 es out) l 0)) = m - 0 by omega]; exact h3
        rw [e1]
        refine EntP.dopn (hent.agree hag) fun ts2 _ => ?_
        rw [ho] at hq
        exact hq ts2
      · trivial
  · intro hnone a listed hi hall
    cases out with
    | normal ts2 H2 =>
      obtain ⟨h1, h2⟩ := tr_normal htr rfl
      have := dinv_final hR (by simpa using h1) hi hall
      rw [this, h2]
      have he : hsAt md l es (.normal ts2 H2) (nSteps (rolesOf md (panOf 0 es (.normal ts2 H2)) l 0)) = H2 := by
        unfold hsAt
        rw [Nat.min_self]
        have hgen : ∀ {ops : Array Oper} {l : List Oper} {ts : List AV} {H : List AO} {es : List En} {out : DOut}, Tr E md ops ds l ts H es out → ∀ {ts2 H2}, out = .normal ts2 H2 → ∀ m0, (hsOf md l es H2).getD (nSteps (rolesOf md none l m0)) H2 = H2 := by
          intro ops l ts H es out h
          induction h with
          | nil => intro ts2 H2 e m0; simp [hsOf, rolesOf, nSteps]
          | @cons o l ts H H' v es out h hs k ih =>
            intro ts2 H2 e m0
            simp only [hsOf, rolesOf]
            split
            · rw [nSteps_cons]; simp only [Role.isStep, if_true]; rw [Nat.add_comm, List.getD_cons_succ]; exact ih e _
            · rw [nSteps_cons]; simp only [Role.isStep, Bool.false_eq_true, if_false, Nat.zero_add]; exact ih e _
          | panic h => intro ts2 H2 e; simp at e
        exact hgen htr rfl 0
      rw [he]
      exact hq
    | panic ch H2 =>
      exfalso
      have hne : es ≠ [] := by rintro rfl; cases htr
      have hle := tr_len htr
      have hpos : 0 < es.length := List.length_pos_iff.2 hne
      have hlt : es.length - 1 < l.toArray.size := by simp; omega
      have hroles : ∀ (l : List Oper) (p m : Nat), p < l.length → ∃ m', (rolesOf md (some p) l m).getD p .pure = .panics m' := by
        intro l
        induction l with
        | nil => intro p m h; simp at h
        | cons o l ih =>
          intro p m h
          cases p with
          | zero => exact ⟨m, by simp [rolesOf]⟩
          | succ p =>
            simp only [rolesOf]
            split <;> (simp only [List.getD_cons_succ]; exact ih p _ (by simpa using h))
      obtain ⟨m', hm'⟩ := hroles l (0 + es.length - 1) 0 (by omega)
      exact (hnone (0 + es.length - 1) (by omega)).1 m' hm'
  · refine ⟨by simp, fun i o hi hl => ?_, rfl, rfl, fun i t hl => ?_, fun t _ => rfl⟩
    · exfalso; rw [Array.getD_eq_getD_getElem?, Array.getElem?_replicate] at hl; split at hl <;> simp at hl
    · exfalso; rw [Array.getD_eq_getD_getElem?, Array.getElem?_replicate] at hl; split at hl <;> simp at hl
  · have hf : ∀ j : Nat, (Array.replicate l.toArray.size false).getD j false = false := by
      intro j; rw [Array.getD_eq_getD_getElem?, Array.getElem?_replicate]; split <;> rfl
    exact ⟨fun j m _ => by rw [hf]; simp, fun m hm => by omega, fun j hj => by rw [hf] at hj; simp at hj⟩
  · unfold unlisted
    refine Nat.le_trans (List.length_filter_le _ _) ?_
    simp

end Go.Ab

/- The abstract view, 27: contracts as instances; rules for regions that are drawn. -/
set_option linter.unusedVariables false
set_option linter.unusedSimpArgs false
namespace Go.Ab
open Go Go.RowKit

variable {E : Env} {N : Nat} {rd : Option Nat} {md : Nat → Nat} {Q : APost} {a b : AAct} {H H2 : List AO}

/-! ### Contracts -/
/-- A call answers one thing and leaves one memory. -/
class Ctr (E : Env) (f : FuncId) (args : List AV) (H : List AO) (pre : outParam Prop) (x : outParam AV) (H' : outParam (List AO)) : Prop where
  call : pre → ACall E f args H (fun y H2 => y = .ret x ∧ H2 = H')
/-- A call panics. -/
class CtrP (E : Env) (f : FuncId) (args : List AV) (H : List AO) (pre : outParam Prop) (ch : outParam (List APanic)) (H' : outParam (List AO)) : Prop where
  call : pre → ACall E f args H (fun y H2 => y = .panic ch ∧ H2 = H')
/-- A call ends in one of two ways. -/
class CtrIf (E : Env) (f : FuncId) (args : List AV) (H : List AO) (pre c : outParam Prop) (x1 : outParam AE) (H1 : outParam (List AO)) (x2 : outParam AE) (H2 : outParam (List AO)) : Prop where
  call : pre → ACall E f args H (fun y H' => (c ∧ y = x1 ∧ H' = H1) ∨ (¬ c ∧ y = x2 ∧ H' = H2))

theorem Ctr.of {f : FuncId} {args : List AV} {pre : Prop} {x : AV} {H' : List AO} (h : pre → AEnter E f args H (fun y H2 => y = .ret x ∧ H2 = H')) : Ctr E f args H pre x H' := ⟨fun p => (h p).call⟩
theorem CtrP.of {f : FuncId} {args : List AV} {pre : Prop} {x : List APanic} {H' : List AO} (h : pre → AEnter E f args H (fun y H2 => y = .panic x ∧ H2 = H')) : CtrP E f args H pre x H' := ⟨fun p => (h p).call⟩
theorem CtrIf.of {f : FuncId} {args : List AV} {pre c : Prop} {x1 x2 : AE} {H1 H2 : List AO} (h : pre → AEnter E f args H (fun y H' => (c ∧ y = x1 ∧ H' = H1) ∨ (¬ c ∧ y = x2 ∧ H' = H2))) : CtrIf E f args H pre c x1 H1 x2 H2 := ⟨fun p => (h p).call⟩

theorem wop_ctr {o : Oper} {K : AAct → List AO → Prop} {ts0 : List AV} {ds : List ADef} {c : Call} (ho : o.op = .call c) {f : Operand} (hc : c.callee = .value f) {fid : FuncId} {first cap : List AV} (hf : AAct.ev E.gl ⟨ts0, ds⟩ f = .fn fid first cap) {args : List AV} (ha : first ++ evCallArgs ⟨ts0, ds⟩ E.gl c ++ cap = args)
    {pre : Prop} {x : AV} {H2 : List AO} (inst : Ctr E fid args H pre x H2) (hp : pre) {x' : AV} (hx : x = x') {H2' : List AO} (hH : H2 = H2') {d : Tmp} (hd : o.dst = some d) {ts : List AV} (hs : ts0.set d x' = ts) (hk : K ⟨ts, ds⟩ H2') : Wop E rd md o ⟨ts0, ds⟩ H K Q := by
  subst hx; subst hH
  refine wop_call ho hc hf ha ((inst.call hp).mono ?_)
  rintro y H' ⟨rfl, rfl⟩
  exact onEnd_ret hd hs hk
theorem wop_ctrp {o : Oper} {K : AAct → List AO → Prop} {ts0 : List AV} {ds : List ADef} {c : Call} (ho : o.op = .call c) {f : Operand} (hc : c.callee = .value f) {fid : FuncId} {first cap : List AV} (hf : AAct.ev E.gl ⟨ts0, ds⟩ f = .fn fid first cap) {args : List AV} (ha : first ++ evCallArgs ⟨ts0, ds⟩ E.gl c ++ cap = args)
    {pre : Prop} {ch : List APanic} {H2 : List AO} (inst : CtrP E fid args H pre ch H2) (hp : pre) {H2' : List AO} (hH : H2 = H2') (hk : Q (.panic ch) ⟨ts0, ds⟩ H2') : Wop E rd md o ⟨ts0, ds⟩ H K Q := by
  subst hH
  refine wop_call ho hc hf ha ((inst.call hp).mono ?_)
  rintro y H' ⟨rfl, rfl⟩
  exact onEnd_panic hk
theorem wop_ctrif {o : Oper} {K : AAct → List AO → Prop} {ts0 : List AV} {ds : List ADef} {c : Call} (ho : o.op = .call c) {f : Operand} (hc : c.callee = .value f) {fid : FuncId} {first cap : List AV} (hf : AAct.ev E.gl ⟨ts0, ds⟩ f = .fn fid first cap) {args : List AV} (ha : first ++ evCallArgs ⟨ts0, ds⟩ E.gl c ++ cap = args)
    {pre cd : Prop} {x1 x2 : AE} {H1 H2 : List AO} (inst : CtrIf E fid args H pre cd x1 H1 x2 H2) (hp : pre) (h1 : cd → onEnd o ⟨ts0, ds⟩ K Q x1 H1) (h2 : ¬ cd → onEnd o ⟨ts0, ds⟩ K Q x2 H2) : Wop E rd md o ⟨ts0, ds⟩ H K Q := by
  refine wop_call ho hc hf ha ((inst.call hp).mono ?_)
  rintro y H' (⟨h, rfl, rfl⟩ | ⟨h, rfl, rfl⟩)
  · exact h1 h
  · exact h2 h

/-! ### Regions that are drawn -/
def DK (md : Nat → Nat) (l : List Oper) (n : Nat) (Q : APost) (ds : List ADef) (pan : Option Nat) (same : List Nat) (out : DOut) : Prop := (okPlan md l.toArray n pan && okS md l.toArray pan same) = true ∧ DFin Q ds out
/-- The operations from number i on; same: steps before that left the heap as it was. -/
def TrA (E : Env) (md : Nat → Nat) (ops : Array Oper) (ds : List ADef) (i : Nat) (same : List Nat) (l : List Oper) (ts : List AV) (H : List AO) (K : Option Nat → List Nat → DOut → Prop) : Prop :=
  ∃ es out sm, Tr E md ops ds l ts H es out ∧ (∀ j ∈ sm, j ∈ same ∨ (i ≤ j ∧ ∃ e, es[j - i]? = some e ∧ e.H' = e.H)) ∧ K (panOf i es out) sm out

theorem w_drawnA {id : Nat} {l : List Oper} {ts0 : List AV} {ds : List ADef} (hrd : ∀ l, rd = some l → l < N) {n : Nat} (hn : ts0.length = n) (h : TrA E md l.toArray ds 0 [] l ts0 H (DK md l n Q ds)) : W E N rd md (.region id l.toArray true) Q ⟨ts0, ds⟩ H := by
  subst hn
  obtain ⟨es, out, sm, htr, hsm, hok, hfin⟩ := h
  rw [Bool.and_eq_true] at hok
  refine w_drawn hrd htr hok.1 (fun i o e ho he hr hs hp k ha => ?_) hfin
  have hR : okR l.toArray ts0.length = true := by have := hok.1; simp only [okPlan, Bool.and_eq_true] at this; exact this.1.1.1
  have hH := allowed_at rfl htr hR (fun j hj => by
    rcases hsm j hj with h | ⟨_, h⟩
    · simp at h
    · rwa [Nat.sub_zero] at h) hok.2 ho he hr hs hp (by simpa using ha)
  rw [hH]
  rcases role_told htr 0 i o ho with h | ⟨e2, he2, h2, _⟩
  · rw [h] at hp; simp at hp
  · have := tr_ent htr i o e ho he (h2 hp).2
    have h3 := this.2 hs
    rw [h3] at this
    exact this.1

variable {ops : Array Oper} {ds : List ADef} {i : Nat} {o : Oper} {l : List Oper} {ts : List AV} {K : Option Nat → List Nat → DOut → Prop} {same : List Nat}

theorem trA_nil (h : K none same (.normal ts H)) : TrA E md ops ds i same [] ts H K := ⟨[], _, same, .nil, fun j hj => .inl hj, h⟩
theorem panOf_cons (e : En) (es : List En) (out : DOut) : panOf i (e :: es) out = panOf (i + 1) es out := by
  cases out with
  | normal => rfl
  | panic => simp only [panOf, List.length_cons, Option.some.injEq]; omega
theorem trA_cons {v : AV} {H' : List AO} (h : Ent E md ops ds o ts H v H') (hs : stepOp md o = false → H' = H) (k : TrA E md ops ds (i + 1) same l (putL ts o.dst v) H' K) : TrA E md ops ds i same (o :: l) ts H K := by
  obtain ⟨es, out, sm, htr, hsm, hk⟩ := k
  refine ⟨_, out, sm, .cons h hs htr, fun j hj => ?_, by rw [panOf_cons]; exact hk⟩
  rcases hsm j hj with h1 | ⟨h1, e, h2, h3⟩
  · exact .inl h1
  · exact .inr ⟨by omega, e, by rw [show j - i = (j - (i + 1)) + 1 by omega]; simpa using h2, h3⟩
theorem trA_cons_same {v : AV} (h : Ent E md ops ds o ts H v H) (k : TrA E md ops ds (i + 1) (i :: same) l (putL ts o.dst v) H K) : TrA E md ops ds i same (o :: l) ts H K := by
  obtain ⟨es, out, sm, htr, hsm, hk⟩ := k
  refine ⟨_, out, sm, .cons h (fun _ => rfl) htr, fun j hj => ?_, by rw [panOf_cons]; exact hk⟩
  rcases hsm j hj with h1 | ⟨h1, e, h2, h3⟩
  · rcases List.mem_cons.1 h1 with h1 | h1
    · subst h1; exact .inr ⟨Nat.le_refl _, _, by simp; rfl, rfl⟩
    · exact .inl h1
  · exact .inr ⟨by omega, e, by rw [show j - i = (j - (i + 1)) + 1 by omega]; simpa using h2, h3⟩
theorem trA_pure (hg : guardOk ops ⟨ts, ds⟩ o = some true) (hp : pureOp o.op = true) {d : Tmp} (hd : o.dst = some d) {v : AV} (hv : evPure E ⟨ts, ds⟩ H o = some v) {ts2 : List AV} (hs : ts.set d v = ts2) (k : TrA E md ops ds (i + 1) same l ts2 H K) : TrA E md ops ds i same (o :: l) ts H K :=
  trA_cons (.pure hg hp hv) (fun _ => rfl) (by rw [hd]; subst hs; exact k)
theorem trA_off (hg : guardOk ops ⟨ts, ds⟩ o = some false) {d : Tmp} (hd : o.dst = some d) {ts2 : List AV} (hs : ts.set d (.tup []) = ts2) (k : TrA E md ops ds (i + 1) same l ts2 H K) : TrA E md ops ds i same (o :: l) ts H K :=
  trA_cons (.off hg) (fun _ => rfl) (by rw [hd]; subst hs; exact k)
theorem trA_heap (hg : guardOk ops ⟨ts, ds⟩ o = some true) (hp : heapOp o.op = true) {d : Tmp} (hd : o.dst = some d) {v : AV} {H' : List AO} (hv : evHeap E md ⟨ts, ds⟩ H o = some (v, H')) (hst : stepOp md o = false → H' = H) {ts2 : List AV} (hs : ts.set d v = ts2) (k : TrA E md ops ds (i + 1) same l ts2 H' K) : TrA E md ops ds i same (o :: l) ts H K :=
  trA_cons (.heap hg hp hv) hst (by rw [hd]; subst hs; exact k)
theorem trA_heap0 (hg : guardOk ops ⟨ts, ds⟩ o = some true) (hp : heapOp o.op = true) (hd : o.dst = none) {v : AV} {H' : List AO} (hv : evHeap E md ⟨ts, ds⟩ H o = some (v, H')) (hst : stepOp md o = false → H' = H) (k : TrA E md ops ds (i + 1) same l ts H' K) : TrA E md ops ds i same (o :: l) ts H K :=
  trA_cons (.heap hg hp hv) hst (by rw [hd]; exact k)
theorem trA_conv (hg : guardOk ops ⟨ts, ds⟩ o = some true) {s t : TypeId} {x : Operand} (hp : o.op = .convert s t x) {d : Tmp} (hd : o.dst = some d) {v : AV} {H' : List AO} (h0 : evPure E ⟨ts, ds⟩ H o = none) (hv : evHeap E md ⟨ts, ds⟩ H o = some (v, H')) (hst : stepOp md o = false → H' = H) {ts2 : List AV} (hs : ts.set d v = ts2) (k : TrA E md ops ds (i + 1) same l ts2 H' K) : TrA E md ops ds i same (o :: l) ts H K :=
  trA_cons (.conv hg hp h0 hv) hst (by rw [hd]; subst hs; exact k)
theorem trA_app (hg : guardOk ops ⟨ts, ds⟩ o = some true) {c : Call} (ho : o.op = .call c) (hc : c.callee = .builtin .append) {x y : Operand} {t t2 : TypeId} (hx : c.args = [x, y].toArray) (ht : c.argTypes = [t, t2].toArray) {i2 : TyI} (ht2 : E.ty t2 = some i2) (hi2 : (match i2.u with | .int _ => false | _ => true) = true)
    {v : AV} {H' : List AO} (hv : evAppend E H t (AAct.ev E.gl ⟨ts, ds⟩ x) (AAct.ev E.gl ⟨ts, ds⟩ y) = some (v, H')) {d : Tmp} (hd : o.dst = some d) {ts2 : List AV} (hs : ts.set d v = ts2) (k : TrA E md ops ds (i + 1) same l ts2 H' K) : TrA E md ops ds i same (o :: l) ts H K :=
  trA_cons (.app hg ho hc hx ht ht2 hi2 hv) (fun h => by simp only [stepOp, ho, hc] at h; simp at h) (by rw [hd]; subst hs; exact k)
theorem trA_ctr (hg : guardOk ops ⟨ts, ds⟩ o = some true) {c : Call} (ho : o.op = .call c) {f : Operand} (hc : c.callee = .value f) {fid : FuncId} {first cap : List AV} (hf : AAct.ev E.gl ⟨ts, ds⟩ f = .fn fid first cap) {args : List AV} (ha : first ++ evCallArgs ⟨ts, ds⟩ E.gl c ++ cap = args)
    {pre : Prop} {x : AV} {H2 : List AO} (inst : Ctr E fid args H pre x H2) (hp : pre) {x' : AV} (hx : x = x') {H2' : List AO} (hH : H2 = H2') {d : Tmp} (hd : o.dst = some d) {ts2 : List AV} (hs : ts.set d x' = ts2) (k : TrA E md ops ds (i + 1) same l ts2 H2' K) : TrA E md ops ds i same (o :: l) ts H K := by
  subst hx; subst hH
  exact trA_cons (.call hg ho hc hf ha (inst.call hp)) (fun h => by simp only [stepOp, ho, hc] at h; simp at h) (by rw [hd]; subst hs; exact k)
theorem trA_ctrp (hg : guardOk ops ⟨ts, ds⟩ o = some true) {c : Call} (ho : o.op = .call c) {f : Operand} (hc : c.callee = .value f) {fid : FuncId} {first cap : List AV} (hf : AAct.ev E.gl ⟨ts, ds⟩ f = .fn fid first cap) {args : List AV} (ha : first ++ evCallArgs ⟨ts, ds⟩ E.gl c ++ cap = args)
    {pre : Prop} {ch : List APanic} {H2 : List AO} (inst : CtrP E fid args H pre ch H2) (hp : pre) {H2' : List AO} (hH : H2 = H2') (k : K (some i) same (.panic ch H2')) : TrA E md ops ds i same (o :: l) ts H K := by
  subst hH
  refine ⟨_, _, same, .panic (.call hg ho hc hf ha (inst.call hp)), fun j hj => .inl hj, ?_⟩
  have : panOf i [(⟨ts, H, .top, H2⟩ : En)] (.panic ch H2) = some i := by simp [panOf]
  rw [this]; exact k
theorem trA_ctrs (hg : guardOk ops ⟨ts, ds⟩ o = some true) {c : Call} (ho : o.op = .call c) {f : Operand} (hc : c.callee = .value f) {fid : FuncId} {first cap : List AV} (hf : AAct.ev E.gl ⟨ts, ds⟩ f = .fn fid first cap) {args : List AV} (ha : first ++ evCallArgs ⟨ts, ds⟩ E.gl c ++ cap = args)
    {pre : Prop} {x : AV} (inst : Ctr E fid args H pre x H) (hp : pre) {x' : AV} (hx : x = x') {d : Tmp} (hd : o.dst = some d) {ts2 : List AV} (hs : ts.set d x' = ts2) (k : TrA E md ops ds (i + 1) (i :: same) l ts2 H K) : TrA E md ops ds i same (o :: l) ts H K := by
  subst hx
  exact trA_cons_same (.call hg ho hc hf ha (inst.call hp)) (by rw [hd]; subst hs; exact k)
theorem trA_yield (hg : guardOk ops ⟨ts, ds⟩ o = some true) {c : Call} (ho : o.op = .call c) {f : Operand} (hc : c.callee = .value f) {lp : Nat} (hf : AAct.ev E.gl ⟨ts, ds⟩ f = .yield lp) {args : List AV} (ha : evCallArgs ⟨ts, ds⟩ E.gl c = args)
    {x : AV} {H2 : List AO} (h : ARound E lp args H (fun y H' => y = .ret x ∧ H' = H2)) {d : Tmp} (hd : o.dst = some d) {ts2 : List AV} (hs : ts.set d x = ts2) (k : TrA E md ops ds (i + 1) same l ts2 H2 K) : TrA E md ops ds i same (o :: l) ts H K :=
  trA_cons (.yield hg ho hc hf ha h) (fun h => by simp only [stepOp, ho, hc] at h; simp at h) (by rw [hd]; subst hs; exact k)
theorem dk_normal {n : Nat} (hok : (okPlan md l.toArray n none && okS md l.toArray none same) = true) (h : Q .normal ⟨ts, ds⟩ H) : DK md l n Q ds none same (.normal ts H) := ⟨hok, h⟩
theorem dk_panic {n : Nat} {ch : List APanic} (hok : (okPlan md l.toArray n (some i) && okS md l.toArray (some i) same) = true) (h : ∀ ts, Q (.panic ch) ⟨ts, ds⟩ H) : DK md l n Q ds (some i) same (.panic ch H) := ⟨hok, h⟩

/-! ### Parting -/
theorem w_cond_br {c : Operand} {x y : Code} {t : Bool} {p q : Prop} (hc : a.ev E.gl c = .bool t) (hp : (t = true) = p) (hq : (t = false) = q) (h1 : p → W E N rd md x Q a H) (h2 : q → W E N rd md y Q a H) : W E N rd md (.cond c x y) Q a H := by
  subst hp; subst hq; exact w_cond hc h1 h2
theorem wl_split_br {rest : List Oper} {j : Nat} {want : Bool} (hg : o.guard = some (j, want)) {d : Tmp} (hd : (ops[j]?).bind (·.dst) = some d) {b : Bool} {ts0 : List AV} (hv : ts0.getD d .top = .bool b) {ts1 ts2 : List AV} (hs1 : ts0.set d (.bool true) = ts1) (hs2 : ts0.set d (.bool false) = ts2)
    {p q : Prop} (hp : (b = true) = p) (hq : (b = false) = q) (h1 : p → Wl E rd md ops Q (o :: rest) ⟨ts1, ds⟩ H) (h2 : q → Wl E rd md ops Q (o :: rest) ⟨ts2, ds⟩ H) : Wl E rd md ops Q (o :: rest) ⟨ts0, ds⟩ H := by
  subst hp; subst hq; exact wl_split hg hd hv hs1 hs2 h1 h2
theorem trA_split_br {rest : List Oper} {j : Nat} {want : Bool} (hg : o.guard = some (j, want)) {d : Tmp} (hd : (ops[j]?).bind (·.dst) = some d) {b : Bool} {ts0 : List AV} (hv : ts0.getD d .top = .bool b) {ts1 ts2 : List AV} (hs1 : ts0.set d (.bool true) = ts1) (hs2 : ts0.set d (.bool false) = ts2)
    {p q : Prop} (hp : (b = true) = p) (hq : (b = false) = q) (h1 : p → TrA E md ops ds i same (o :: rest) ts1 H K) (h2 : q → TrA E md ops ds i same (o :: rest) ts2 H K) : TrA E md ops ds i same (o :: rest) ts0 H K := by
  subst hp; subst hq
  have : (⟨ts0.set d (.bool b), ds⟩ : AAct) = ⟨ts0, ds⟩ := AAct.set_self (a := ⟨ts0, ds⟩) hv
  have e := congrArg AAct.tmps this
  simp only at e
  cases b with
  | true => rw [← e, hs1]; exact h1 rfl
  | false => rw [← e, hs2]; exact h2 rfl

end Go.Ab

/- The abstract view, 28: contracts that are proved over the machine's own worlds, as contracts of ours; what is known of package-level variables. -/
set_option linter.unusedVariables false
set_option linter.unusedSimpArgs false
namespace Go.Ab
open Go Go.RowKit

variable {E : Env} {g : Ghost} {H : List AO} {w w' : World}

/-- A package-level variable's cells. -/
class GL (gl : Nat → List AV) (i : Nat) (l : outParam (List AV)) : Prop where
  eq : gl i = l
/-- A package-level variable holds a whole number. -/
class GLInt (gl : Nat → List AV) (i : Nat) : Prop where
  ex : ∃ m, gl i = [.int .i64 m]

/-- Whatever adds blocks alone leaves what is seen. -/
theorem Rep.kept {n0 : Nat} {w0 : World} {gl : Nat → List AV} (hr : Rep n0 w0 gl g H w) (hb : Below w.heap.size w w') : Rep n0 w0 gl g H w' := by
  have hn : n0 ≤ w.heap.size := Nat.le_trans hr.n0le hr.below.size
  refine ⟨hr.below.trans (hb.mono hn), hr.n0le, fun b o v h => ?_, hr.len, hr.beyond, fun i o h => ?_, hr.apart, hr.glob⟩
  · rw [World.cell?_of_block (hb.block b (hr.K_lt h))]; exact hr.know b o v h
  · exact ORep.frame h (hr.objs i o h) (GLe.refl g) (fun b hbb => hb.block b (hr.own_lt hbb).1) (fun _ _ _ h => h) (fun _ h => h)

theorem econc_ret {x : AV} {c : Value} (hr : E.Rep g H w) (hb : Below w.heap.size w w') (hx : VRel g x c) : EConc E g (fun y H' => y = .ret x ∧ H' = H) (.returned c) w' :=
  ⟨_, H, g, ⟨rfl, rfl⟩, GLe.refl g, hr.kept hb, .ret hx⟩
theorem econc_same {x : AV} {c : Value} (hr : E.Rep g H w) (hx : VRel g x c) : EConc E g (fun y H' => y = .ret x ∧ H' = H) (.returned c) w :=
  econc_ret hr (Below.refl _ _) hx

theorem AEnter.of_calls {f : FuncId} {fn : Func} {c : Code} {args : List AV} {R : AE → List AO → Prop} (hf : E.P.funcs[f]? = some fn) (hn : (fn.name == "runtime.NumGoroutine") = false) (hb : fn.body = some c)
    (h : ∀ g w cs, E.Rep g H w → VRels g args cs → Calls E.P f cs w (EConc E g R)) : AEnter E f args H R :=
  fun g w cs hr hv => ⟨callFunc_enter hf hn hb cs w, callsIn_wide.2 (h g w cs hr hv)⟩

/-! ### Arguments -/
theorem rels_nil {cs : Array Value} (h : VRels g [] cs) : cs = #[] := Array.eq_empty_of_size_eq_zero (by simpa using h.1)
theorem rels_cons {x : AV} {xs : List AV} {cs : Array Value} (h : VRels g (x :: xs) cs) : ∃ c ds, cs = #[c] ++ ds ∧ VRel g x c ∧ VRels g xs ds := by
  obtain ⟨l⟩ := cs
  obtain ⟨h1, h2⟩ := h
  rcases l with _ | ⟨c, l⟩
  · simp at h1
  · refine ⟨c, ⟨l⟩, by simp, by simpa using h2 0, by simpa using h1, fun i => ?_⟩
    have := h2 (i + 1)
    simpa using this
theorem rels1 {x : AV} {cs : Array Value} (h : VRels g [x] cs) : ∃ c, cs = #[c] ∧ VRel g x c := by
  obtain ⟨c, ds, rfl, h1, h2⟩ := rels_cons h
  rw [rels_nil h2]; exact ⟨c, by simp, h1⟩
theorem rels2 {x y : AV} {cs : Array Value} (h : VRels g [x, y] cs) : ∃ c d, cs = #[c, d] ∧ VRel g x c ∧ VRel g y d := by
  obtain ⟨c, ds, rfl, h1, h2⟩ := rels_cons h
  obtain ⟨d, rfl, h3⟩ := rels1 h2
  exact ⟨c, d, by simp, h1, h3⟩
theorem rels3 {x y z : AV} {cs : Array Value} (h : VRels g [x, y, z] cs) : ∃ c d e, cs = #[c, d, e] ∧ VRel g x c ∧ VRel g y d ∧ VRel g z e := by
  obtain ⟨c, ds, rfl, h1, h2⟩ := rels_cons h
  obtain ⟨d, e, rfl, h3, h4⟩ := rels2 h2
  exact ⟨c, d, e, by simp, h1, h3, h4⟩

/-- A slice of bytes. -/
theorem sl_bytes (hr : E.Rep g H w) {n : Nat} {s : List UInt8} {tok : Tok} {c : Value} (h : VRel g (.sl n (bytesAV s) tok) c) (hn : s.length = n) :
    (c = .slice none 0 0 ∧ s = []) ∨ ∃ a cap, c = .slice (some a) n cap ∧ n ≤ cap ∧ ∀ i, i < n → a = ⟨a.block, a.off, none⟩ ∧ w.cell? (a.add i) = some (.int .u8 ((s.getD i 0).toNat : Int)) := by
  generalize hx : bytesAV s = xs at h
  cases h with
  | @nsl _ p ht =>
    cases p with
    | none => left; refine ⟨rfl, ?_⟩; exact List.length_eq_zero_iff.1 hn
    | some a => right; exact ⟨a, 0, rfl, Nat.le_refl _, fun i hi => absurd hi (Nat.not_lt_zero _)⟩
  | sl _ _ _ b o cap vs h1 hk hv ht =>
    right
    refine ⟨⟨b, o, none⟩, cap, rfl, h1, fun i hi => ⟨rfl, ?_⟩⟩
    rw [add_none]
    subst hx
    have hl : i < (bytesAV s).length := by rw [bytesAV_len]; omega
    have h2 := hr.know _ _ _ (hk i hl)
    have h3 := hv i
    have h4 : (bytesAV s).getD i .top = .int .u8 ((s.getD i 0).toNat : Int) := by
      have : i < s.length := by omega
      simp [bytesAV, List.getD_eq_getElem?_getD, this, byteAV]
    rw [h4] at h3
    rw [h2, h3.int_inv]

/-- A variable that is known. -/
theorem gl_cell (hr : E.Rep g H w) (i : Nat) {l : List AV} (hl : E.gl i = l) (k : Nat) (hk : k < l.length) : ∃ v, w.cell? ⟨i, k, none⟩ = some v ∧ VRel g (l.getD k .top) v := by
  have := hr.glob i
  rw [hl] at this
  cases this with
  | row _ b o vs h1 h2 => exact ⟨vs k, by have := hr.know _ _ _ (h1 k hk); rwa [Nat.zero_add] at this, h2 k⟩

end Go.Ab

/- The abstract view, 29: another view of the same state: what lies behind is let go, rows that may grow begin, or are known from now on; loops that look at their head through such a view. -/
set_option linter.unusedVariables false
set_option linter.unusedSimpArgs false
namespace Go.Ab
open Go Go.RowKit

variable {E : Env} {N : Nat} {rd : Option Nat} {md : Nat → Nat} {Q : APost} {a b : AAct} {H H2 H3 : List AO} {g g0 : Ghost} {w w' : World} {ts ts2 ts3 : List AV} {ds : List ADef}

theorem Shift.fgt (h : fgt ts ts2) : Shift E N ts ds H ts2 H := fun g0 g w a' hd hl hr ha => ⟨g, hl, hr, fgt_rels _ _ h _ ha.1, ha.2⟩
theorem Shift.trans (h : Shift E N ts ds H ts2 H2) (k : Shift E N ts2 ds H2 ts3 H3) : Shift E N ts ds H ts3 H3 := fun g0 g w a' hd hl hr ha =>
  let ⟨g1, h1, h2, h3⟩ := h g0 g w a' hd hl hr ha
  k g0 g1 w a' hd h1 h2 h3

theorem DRels.nil_rel {g : Ghost} {ys : List Deferred} (h : DRels g [] ys) (g2 : Ghost) : DRels g2 [] ys := by rw [h.nil_inv]; exact .nil

theorem VRels.cut {n : Nat} {xs : List AV} {cs : Array Value} (h : VRels g xs cs) (hx : belowL n xs = true) : VRels (g.cut n) xs cs := ⟨h.1, fun i => (h.2 i).cut (belowL_get hx i)⟩

def ADef.within (n : Nat) : ADef → Bool
  | .mark id => decide (id < n)
  | .call _ args cap => belowL n args && belowL n cap
theorem DRels.cut {n : Nat} {xs : List ADef} {ys : List Deferred} (h : DRels g xs ys) : xs.all (·.within n) = true → DRels (g.cut n) xs ys := by
  induction h with
  | nil => intro _; exact .nil
  | cons a _ ih =>
    intro hx
    simp only [List.all_cons, Bool.and_eq_true] at hx
    refine .cons ?_ (ih hx.2)
    cases a with
    | mark id b e => exact .mark id b (cut_phi e (by simpa [ADef.within] using hx.1))
    | call f as cs x y h1 h2 =>
      have := hx.1
      simp only [ADef.within, Bool.and_eq_true] at this
      exact .call f as cs x y (h1.cut this.1) (h2.cut this.2)

/-- What lies behind is let go. -/
theorem Shift.drop (l : List AO) (hgl : ∀ i, belowL N (E.gl i) = true) (hn : N ≤ H.length) (hf : Fit H.length H) (ht : belowL H.length ts = true) (hds : ds.all (·.within H.length) = true) : Shift E N ts ds (H ++ l) ts H := fun g0 g w a' hd hl hr ha =>
  ⟨g.cut H.length, hl.cut hd hn, Rep.drop hr hf (fun i => belowL_mono hn _ (hgl i)), ha.1.cut ht, ha.2.cut hds⟩

/-- A row that may grow begins. -/
theorem Rep.new_vec {n0 : Nat} {w0 : World} {gl : Nat → List AV} (hr : Rep n0 w0 gl g H w) (sz : Nat) : Rep n0 w0 gl ((g.push 0).setTok H.length 0 ⟨0, 0, 0⟩) (H ++ [.vec sz 0 []]) w ∧ GLe g ((g.push 0).setTok H.length 0 ⟨0, 0, 0⟩) := by
  have hnone : ∀ e', (g.push 0).tok H.length e' = none := fun e' => hr.beyond _ _ (Nat.le_refl _)
  have le : GLe g ((g.push 0).setTok H.length 0 ⟨0, 0, 0⟩) := (g.push_le 0).trans ((g.push 0).setTok_le ⟨0, 0, 0⟩ (hnone 0))
  have hown : ∀ i, i < H.length → own ((g.push 0).setTok H.length 0 ⟨0, 0, 0⟩) (H ++ [.vec sz 0 []]) i = own g H i := by
    intro i hi
    unfold own
    rw [List.getElem?_append_left hi]
    have hp : ((g.push 0).setTok H.length 0 ⟨0, 0, 0⟩).phi[i]? = g.phi[i]? := by
      show (g.phi ++ [0])[i]? = _
      rw [List.getElem?_append_left (by rw [hr.len]; exact hi)]
    cases hH : H[i]? with
    | none => rfl
    | some x =>
      cases x <;> first | rfl | exact hp | skip
      all_goals
        simp only
        rw [setTok_other _ _ (by omega)]; rfl
  have hown2 : ∀ {i b : Nat}, H.length ≤ i → own ((g.push 0).setTok H.length 0 ⟨0, 0, 0⟩) (H ++ [.vec sz 0 []]) i ≠ some b := by
    intro i b hi hb
    by_cases hi' : i = H.length
    · subst hi'
      unfold own at hb
      rw [List.getElem?_append_right (Nat.le_refl _), Nat.sub_self] at hb
      simp only [List.getElem?_cons_zero, setTok_same] at hb
      simp at hb
    · unfold own at hb
      rw [List.getElem?_eq_none (by simp; omega)] at hb
      simp at hb
  refine ⟨⟨hr.below, hr.n0le, hr.know, by show (g.phi ++ [0]).length = _; simp [hr.len], fun t e' h => ?_, fun i o h => ?_, fun i j b hi hj => ?_, fun i => (hr.glob i).mono le⟩, le⟩
  · simp at h
    rw [setTok_other _ _ (by omega)]
    exact hr.beyond t e' (by omega)
  · by_cases hi : i < H.length
    · rw [List.getElem?_append_left hi] at h
      exact ORep.frame h (hr.objs i o h) le (fun _ _ => rfl) (fun _ _ _ h => h) (fun e' h => by rw [setTok_other _ _ (by omega)]; exact h)
    · rw [List.getElem?_append_right (by omega)] at h
      have : i = H.length := by
        have := (List.getElem?_eq_some_iff.1 h).1
        simp at this; omega
      subst this
      rw [Nat.sub_self] at h
      simp at h
      subst h
      exact ⟨⟨0, 0, 0⟩, setTok_same _ _ _ _, fun e' he => by rw [setTok_other _ _ (by omega)]; exact hnone e', rfl, by simp, Nat.le_refl _, .inl rfl⟩
  · by_cases hi' : i < H.length
    · by_cases hj' : j < H.length
      · rw [hown i hi'] at hi
        rw [hown j hj'] at hj
        exact hr.apart i j b hi hj
      · exact absurd hj (hown2 (by omega))
    · exact absurd hi (hown2 (by omega))

theorem vec_of_nil {c : Value} (h : VRel g (.sl 0 [] .full) c) {id : Nat} {g' : Ghost} (ht : g'.tok id 0 = some ⟨0, 0, 0⟩) : VRel g' (.vsl id 0) c := by
  cases h with
  | nsl _ _ => exact .vslN id _ ht rfl
  | sl _ _ _ b o cap vs hn hk hv htk =>
    have : cap = 0 := by have : cap - 0 = 0 := htk; omega
    subst this
    exact .vslZ id _ b o ht rfl

/-- A nil slice in a temporary is from now on a row that may grow. -/
theorem Shift.vec (sz t : Nat) (h : ts.getD t .top = .sl 0 [] .full) : Shift E N ts ds H (ts.set t (.vsl H.length 0)) (H ++ [.vec sz 0 []]) := fun g0 g w a' hd hl hr ha => by
  obtain ⟨r1, r2⟩ := Rep.new_vec hr sz
  refine ⟨_, hl.trans r2, r1, ?_, ha.2.mono r2⟩
  have h1 := (ha.1.2 t)
  rw [h] at h1
  have h2 := (ha.1.mono r2).set t (c := a'.tmps.getD t undef) (vec_of_nil h1 (setTok_same _ _ _ _))
  have e : a'.tmps.setIfInBounds t (a'.tmps.getD t undef) = a'.tmps := by
    apply Array.ext_getElem?
    intro i
    rw [Array.getElem?_setIfInBounds]
    split
    · rename_i e; subst e
      split
      · rename_i hlt; rw [Array.getElem?_eq_getElem hlt]; simp [Array.getD, hlt]
      · rename_i hlt; rw [Array.getElem?_eq_none (by omega)]
    · rfl
  rwa [e] at h2

/-- What a row that may grow holds is known from now on, and is written no more. -/
theorem Rep.know_vec {n0 : Nat} {w0 : World} {gl : Nat → List AV} (hr : Rep n0 w0 gl g H w) {id sz n : Nat} {xs : List AV} (hH : H[id]? = some (.vec sz n xs)) : ∃ g', GLe g g' ∧ Rep n0 w0 gl g' (H.set id .dead) w ∧ ∀ c, VRel g (.vsl id n) c → VRel g' (.sl n xs .ro) c := by
  obtain ⟨ti, o1, o2, o3, o4, o5, o6⟩ := hr.objs _ _ hH
  have hid : id < H.length := (List.getElem?_eq_some_iff.1 hH).1
  have base : ∀ {g' : Ghost}, GLe g g' → (∀ i, i ≠ id → own g' (H.set id .dead) i = own g H i) → (∀ b o v, g'.K b o = some v → w.cell? ⟨b, o, none⟩ = some v) → g'.phi = g.phi → g'.tok = g.tok → (∀ i b, i ≠ id → own g H i = some b → ∀ o, g.K b o = none → g'.K b o = none) → Rep n0 w0 gl g' (H.set id .dead) w := by
    intro g' le hown hk hp ht hK
    have hdead : own g' (H.set id .dead) id = none := by unfold own; rw [List.getElem?_set_self hid]
    refine ⟨hr.below, hr.n0le, hk, by rw [hp]; simp [hr.len], fun t e h => by rw [ht]; exact hr.beyond t e (by simpa using h), fun i o h => ?_, fun i j x hi hj => ?_, fun i => (hr.glob i).mono le⟩
    · by_cases e : id = i
      · subst e
        rw [List.getElem?_set_self hid] at h
        injection h with h; subst h; trivial
      · rw [List.getElem?_set_ne e] at h
        exact ORep.frame h (hr.objs i o h) le (fun _ _ => rfl) (fun b hb o ho => hK i b (fun h => e h.symm) hb o ho) (fun e h => by rw [ht]; exact h)
    · have hi' : i ≠ id := by rintro rfl; rw [hdead] at hi; simp at hi
      have hj' : j ≠ id := by rintro rfl; rw [hdead] at hj; simp at hj
      rw [hown i hi'] at hi
      rw [hown j hj'] at hj
      exact hr.apart i j x hi hj
  have hownset : ∀ {g' : Ghost}, g'.phi = g.phi → g'.tok = g.tok → ∀ i, i ≠ id → own g' (H.set id .dead) i = own g H i := by
    intro g' h1 h2 i hi
    unfold own
    rw [List.getElem?_set_ne (fun h => hi h.symm), h1, h2]
  rcases o6 with o6 | ⟨cs, T, fz, p1, p2, p3, p4, p5, p6⟩
  · refine ⟨g, GLe.refl g, base (GLe.refl g) (hownset rfl rfl) hr.know rfl rfl (fun _ _ _ _ _ h => h), fun c hc => ?_⟩
    have hn : n = 0 := by omega
    subst hn
    have : xs = [] := by simp at o4; exact o4
    subst this
    cases hc with
    | vslN _ ti2 ht hs => exact .nsl _ trivial
    | vslZ _ ti2 b o ht hs => exact .sl 0 [] .ro b o 0 (fun _ => undef) (Nat.le_refl _) (fun i hi => by simp at hi) (fun i => .top _) trivial
    | vsl _ _ ti2 ht h0 hn hs => rw [o1] at ht; injection ht with ht; subst ht; omega
  · by_cases hs : ti.spare = 0
    · refine ⟨g, GLe.refl g, base (GLe.refl g) (hownset rfl rfl) hr.know rfl rfl (fun _ _ _ _ _ h => h), fun c hc => ?_⟩
      have hn : n = 0 := by omega
      subst hn
      have : xs = [] := by simp at o4; exact o4
      subst this
      cases hc with
      | vslN _ ti2 ht hs => exact .nsl _ trivial
      | vslZ _ ti2 b o ht hs => exact .sl 0 [] .ro b o 0 (fun _ => undef) (Nat.le_refl _) (fun i hi => by simp at hi) (fun i => .top _) trivial
      | vsl _ _ ti2 ht h0 hn hs => rw [o1] at ht; injection ht with ht; subst ht; omega
    have hown : own g H id = some ti.b := by unfold own; rw [hH]; simp [o1, hs]
    have le := g.learn_le ti.b (fun o => if o < xs.length then cs[o]? else none)
    have hxl : xs.length ≤ cs.size := by rw [p3, o4]; exact Nat.mul_le_mul_right _ o5
    refine ⟨_, le, base le (hownset rfl rfl) (fun x o v h => ?_) rfl rfl (fun i b hi hb o ho => ?_), fun c hc => ?_⟩
    · have h' : (if x = ti.b then (match g.K x o with | some v => some v | none => if o < xs.length then cs[o]? else none) else g.K x o) = some v := h
      split at h'
      · rename_i e
        subst e
        rw [p6 o] at h'
        simp only at h'
        split at h'
        · rw [cell_of_heap p2]; exact h'
        · simp at h'
      · exact hr.know _ _ _ h'
    · show (if b = ti.b then _ else _) = none
      rw [if_neg (by rintro rfl; exact hi (hr.apart _ _ _ hb hown))]; exact ho
    · cases hc with
      | vslN _ ti2 ht hs2 => rw [o1] at ht; injection ht with ht; subst ht; exact absurd hs2 hs
      | vslZ _ ti2 b o ht hs2 => rw [o1] at ht; injection ht with ht; subst ht; exact absurd hs2 hs
      | vsl _ _ ti2 ht h0 hn hs2 =>
        rw [o1] at ht; injection ht with ht; subst ht
        refine .sl n xs .ro ti.b 0 _ (fun i => cs.getD i undef) hn (fun i hi => ?_) (fun i => (p4 i).mono le) trivial
        rw [Nat.zero_add]
        show (if ti.b = ti.b then (match g.K ti.b i with | some v => some v | none => if i < xs.length then cs[i]? else none) else _) = _
        rw [if_pos rfl, p6 i]
        simp only
        rw [if_pos hi, Array.getElem?_eq_getElem (by omega)]
        simp [Array.getD_eq_getD_getElem?, show i < cs.size by omega]

/-- A row that may grow, in a temporary, is known from now on. -/
theorem Shift.know (t : Nat) {id sz n : Nat} {xs : List AV} (h : ts.getD t .top = .vsl id n) (hH : H[id]? = some (.vec sz n xs)) : Shift E N ts ds H (ts.set t (.sl n xs .ro)) (H.set id .dead) := fun g0 g w a' hd hl hr ha => by
  obtain ⟨g', r1, r2, r3⟩ := Rep.know_vec hr hH
  refine ⟨g', hl.trans r1, r2, ?_, ha.2.mono r1⟩
  have h1 := (ha.1.2 t)
  rw [h] at h1
  have h2 := (ha.1.mono r1).set t (c := a'.tmps.getD t undef) (r3 _ h1)
  have e : a'.tmps.setIfInBounds t (a'.tmps.getD t undef) = a'.tmps := by
    apply Array.ext_getElem?
    intro i
    rw [Array.getElem?_setIfInBounds]
    split
    · rename_i e; subst e
      split
      · rename_i hlt; rw [Array.getElem?_eq_getElem hlt]; simp [Array.getD, hlt]
      · rename_i hlt; rw [Array.getElem?_eq_none (by omega)]
    · rfl
  rwa [e] at h2

/-! ### Endings through another view -/
/-- What is handed back, a row that may grow, is known from now on. -/
theorem EConc.know {R : AE → List AO → Prop} {e : Ending} (f : AE → List AO → Option (Nat × Nat × Nat × List AV)) (h : EConc E g (fun x H' => ∃ id sz n xs l H2, x = .ret (.vsl id n) ∧ H'[id]? = some (.vec sz n xs) ∧ H'.set id .dead = H2 ++ l ∧ True ∧ R (.ret (.sl n xs .ro)) (H2 ++ l)) e w) : EConc E g R e w := by
  obtain ⟨x, H', g1, ⟨id, sz, n, xs, l, H2, rfl, hH, hs, _, hR⟩, le, hr, he⟩ := h
  obtain ⟨g2, r1, r2, r3⟩ := Rep.know_vec hr hH
  cases he with
  | ret hv => exact ⟨_, _, g2, hR, le.trans r1, hs ▸ r2, .ret (r3 _ hv)⟩

/-! ### Loops -/
/-- What is asked behind a round of a loop. -/
def WLoopS {ι : Type} (E : Env) (N : Nat) (st : ι → List AV) (ds : List ADef) (Hs : ι → List AO) (inv : ι → Prop) (μ : ι → Nat) (i : ι) (Q : APost) : APost :=
  AX.then (fun a' H' => ∃ j, inv j ∧ μ j < μ i ∧ a'.defers = ds ∧ Shift E N a'.tmps ds H' (st j) (Hs j)) Q
theorem wloopS_normal {ι : Type} {st : ι → List AV} {Hs : ι → List AO} {inv : ι → Prop} {μ : ι → Nat} {i : ι} (j : ι) (h1 : inv j) (h2 : μ j < μ i) (h3 : Shift E N ts ds H (st j) (Hs j)) : WLoopS E N st ds Hs inv μ i Q .normal ⟨ts, ds⟩ H := ⟨j, h1, h2, rfl, h3⟩
theorem wloopS_exit {ι : Type} {st : ι → List AV} {Hs : ι → List AO} {inv : ι → Prop} {μ : ι → Nat} {i : ι} {id : Nat} (h : Q (.exit id) a H) : WLoopS E N st ds Hs inv μ i Q (.exit id) a H := h
theorem wloopS_goto {ι : Type} {st : ι → List AV} {Hs : ι → List AO} {inv : ι → Prop} {μ : ι → Nat} {i : ι} {l : Nat} (h : Q (.goto l) a H) : WLoopS E N st ds Hs inv μ i Q (.goto l) a H := h
theorem wloopS_ret {ι : Type} {st : ι → List AV} {Hs : ι → List AO} {inv : ι → Prop} {μ : ι → Nat} {i : ι} (h : Q .ret a H) : WLoopS E N st ds Hs inv μ i Q .ret a H := h
theorem wloopS_panic {ι : Type} {st : ι → List AV} {Hs : ι → List AO} {inv : ι → Prop} {μ : ι → Nat} {i : ι} {ch : List APanic} (h : Q (.panic ch) a H) : WLoopS E N st ds Hs inv μ i Q (.panic ch) a H := h

theorem w_loopS {c : Code} {ι : Type} (st : ι → List AV) (Hs : ι → List AO) (inv : ι → Prop) (μ : ι → Nat) (i0 : ι) (h0 : inv i0) (h1 : Shift E N ts ds H (st i0) (Hs i0))
    (round : ∀ i, inv i → W E N rd md c (WLoopS E N st ds Hs inv μ i Q) ⟨st i, ds⟩ (Hs i)) : W E N rd md (.loop c) Q ⟨ts, ds⟩ H := by
  intro g0 g w a' hd hl hr ha
  obtain ⟨g1, k1, k2, k3⟩ := h1 g0 g w a' hd hl hr ha
  refine wpV_loopI (I := fun (i : { i : ι // inv i }) a' w' => ∃ g, GLe g0 g ∧ E.Rep g (Hs i.1) w' ∧ ARel g ⟨st i.1, ds⟩ a') (fun i => μ i.1) ?_ ⟨i0, h0⟩ ⟨g1, k1, k2, k3⟩
  rintro ⟨i, hi⟩ a1 w1 ⟨g1, hl1, hr1, ha1⟩
  refine wpV_mono (W_sound c _ _ _ (round i hi) g0 g1 w1 a1 hd hl1 hr1 ha1) ?_
  rintro e a2 w2 ⟨x, A, H', g', hq, hl', hr', ha', hx⟩
  cases hx with
  | normal =>
    obtain ⟨j, hj, hlt, hds, hsh⟩ := hq
    obtain ⟨ts', ds'⟩ := A
    simp only at hds hsh
    subst hds
    obtain ⟨g2, q1, q2, q3⟩ := hsh g0 g' w2 a2 hd hl' hr' ha'
    exact ⟨⟨j, hj⟩, ⟨g2, q1, q2, q3⟩, hlt⟩
  | exit id => exact ⟨.exit id, A, H', g', hq, hl', hr', ha', .exit id⟩
  | goto l => exact ⟨.goto l, A, H', g', hq, hl', hr', ha', .goto l⟩
  | ret => exact ⟨.ret, A, H', g', hq, hl', hr', ha', .ret⟩
  | panic hp => exact ⟨.panic _, A, H', g', hq, hl', hr', ha', .panic hp⟩

/-- A function's contract, from its body: the temporaries named; what is known of variables lies below. -/
theorem AEnter.go2 {f : FuncId} {fn : Func} {c : Code} {args ts : List AV} {R : AE → List AO → Prop} (md : Nat → Nat) (hf : E.P.funcs[f]? = some fn) (hn : (fn.name == "runtime.NumGoroutine") = false) (hb : fn.body = some c)
    (hts : args ++ List.replicate (fn.ntmps - args.length) .top = ts) (h : Fit H.length H → (∀ i, belowL H.length (E.gl i) = true) → W E H.length none md c (FPost E H.length fn R) ⟨ts, []⟩ H) : AEnter E f args H R := by
  intro g w cs hr hv
  exact AEnter.of_body md hf hn hb (by rw [hts]; exact fun hfit => h hfit fun i => glob_within hr _ (Nat.le_refl _) i) g w cs hr hv

end Go.Ab

/- The abstract view, 29b: rounds as instances; what stands behind a round and behind a function with marks. -/
set_option linter.unusedVariables false
set_option linter.unusedSimpArgs false
namespace Go.Ab
open Go Go.RowKit

variable {E : Env} {N : Nat} {rd : Option Nat} {md : Nat → Nat} {Q : APost} {a b : AAct} {H H2 : List AO} {ts : List AV} {ds : List ADef}

/-- A round answers one thing and leaves one memory. -/
class Yld (E : Env) (l : Nat) (args : List AV) (H : List AO) (x : outParam AV) (H' : outParam (List AO)) : Prop where
  call : ARound E l args H (fun y H2 => y = .ret x ∧ H2 = H')
/-- A round panics. -/
class YldP (E : Env) (l : Nat) (args : List AV) (H : List AO) (ch : outParam (List APanic)) (H' : outParam (List AO)) : Prop where
  call : ARound E l args H (fun y H2 => y = .panic ch ∧ H2 = H')

theorem wop_yld {o : Oper} {K : AAct → List AO → Prop} {ts0 : List AV} {c : Call} (ho : o.op = .call c) {f : Operand} (hc : c.callee = .value f) {l : Nat} (hf : AAct.ev E.gl ⟨ts0, ds⟩ f = .yield l) {args : List AV} (ha : evCallArgs ⟨ts0, ds⟩ E.gl c = args)
    {x : AV} {H2 : List AO} (inst : Yld E l args H x H2) {d : Tmp} (hd : o.dst = some d) (hs : ts0.set d x = ts) (hk : K ⟨ts, ds⟩ H2) : Wop E rd md o ⟨ts0, ds⟩ H K Q := by
  refine wop_yield ho hc hf ha (inst.call.mono ?_)
  rintro y H' ⟨rfl, rfl⟩
  exact onEnd_ret hd hs hk
theorem wop_yldp {o : Oper} {K : AAct → List AO → Prop} {ts0 : List AV} {c : Call} (ho : o.op = .call c) {f : Operand} (hc : c.callee = .value f) {l : Nat} (hf : AAct.ev E.gl ⟨ts0, ds⟩ f = .yield l) {args : List AV} (ha : evCallArgs ⟨ts0, ds⟩ E.gl c = args)
    {ch : List APanic} {H2 : List AO} (inst : YldP E l args H ch H2) (hk : Q (.panic ch) ⟨ts0, ds⟩ H2) : Wop E rd md o ⟨ts0, ds⟩ H K Q := by
  refine wop_yield ho hc hf ha (inst.call.mono ?_)
  rintro y H' ⟨rfl, rfl⟩
  exact onEnd_panic hk
theorem trA_yld {ops : Array Oper} {i : Nat} {o : Oper} {l : List Oper} {K : Option Nat → List Nat → DOut → Prop} {same : List Nat} (hg : guardOk ops ⟨ts, ds⟩ o = some true) {c : Call} (ho : o.op = .call c) {f : Operand} (hc : c.callee = .value f) {lp : Nat} (hf : AAct.ev E.gl ⟨ts, ds⟩ f = .yield lp) {args : List AV} (ha : evCallArgs ⟨ts, ds⟩ E.gl c = args)
    {x : AV} {H2 : List AO} (h : Yld E lp args H x H2) {d : Tmp} (hd : o.dst = some d) {ts2 : List AV} (hs : ts.set d x = ts2) (k : TrA E md ops ds (i + 1) same l ts2 H2 K) : TrA E md ops ds i same (o :: l) ts H K := trA_yield hg ho hc hf ha h.call hd hs k

theorem wop_ctrif_br {o : Oper} {K : AAct → List AO → Prop} {ts0 : List AV} {c : Call} (ho : o.op = .call c) {f : Operand} (hc : c.callee = .value f) {fid : FuncId} {first cap : List AV} (hf : AAct.ev E.gl ⟨ts0, ds⟩ f = .fn fid first cap) {args : List AV} (ha : first ++ evCallArgs ⟨ts0, ds⟩ E.gl c ++ cap = args)
    {pre cd : Prop} {x1 x2 : AE} {H1 H2 : List AO} (inst : CtrIf E fid args H pre cd x1 H1 x2 H2) (hp : pre) {p q : Prop} {H1' H2' : List AO} (e1 : cd = p) (e2 : (¬ cd) = q) (g1 : H1 = H1') (g2 : H2 = H2') (h1 : p → onEnd o ⟨ts0, ds⟩ K Q x1 H1') (h2 : q → onEnd o ⟨ts0, ds⟩ K Q x2 H2') : Wop E rd md o ⟨ts0, ds⟩ H K Q := by
  subst e1; subst e2; subst g1; subst g2; exact wop_ctrif ho hc hf ha inst hp h1 h2

theorem trA_offs {ops : Array Oper} {i : Nat} {o : Oper} {l : List Oper} {K : Option Nat → List Nat → DOut → Prop} {same : List Nat} (hg : guardOk ops ⟨ts, ds⟩ o = some false) {d : Tmp} (hd : o.dst = some d) {ts2 : List AV} (hs : ts.set d (.tup []) = ts2) (k : TrA E md ops ds (i + 1) (i :: same) l ts2 H K) : TrA E md ops ds i same (o :: l) ts H K :=
  trA_cons_same (.off hg) (by rw [hd]; subst hs; exact k)
theorem trA_heap0s {ops : Array Oper} {i : Nat} {o : Oper} {l : List Oper} {K : Option Nat → List Nat → DOut → Prop} {same : List Nat} (hg : guardOk ops ⟨ts, ds⟩ o = some true) (hp : heapOp o.op = true) (hd : o.dst = none) {v : AV} (hv : evHeap E md ⟨ts, ds⟩ H o = some (v, H)) (k : TrA E md ops ds (i + 1) (i :: same) l ts H K) : TrA E md ops ds i same (o :: l) ts H K :=
  trA_cons_same (.heap hg hp hv) (by rw [hd]; exact k)

theorem rpost_exit {l id : Nat} {fn : FuncId} {ps : Array Tmp} {asg body : Code} {d : Nat} {pe : Option Code} {R : AE → List AO → Prop} (h1 : H[l]? = some (.loop .busy pe fn ts ps asg body d)) (hs : H.set l (.loop .done (some (.exit id)) fn ts ps asg body d) = H2)
    (h : Out N R (.ret (.bool false)) H2) : RPost N l fn ts ps asg body d R (.exit id) a H := ⟨⟨pe, h1⟩, by subst hs; exact h⟩
theorem rpost_goto {l t : Nat} {fn : FuncId} {ps : Array Tmp} {asg body : Code} {d : Nat} {pe : Option Code} {R : AE → List AO → Prop} (h1 : H[l]? = some (.loop .busy pe fn ts ps asg body d)) (hs : H.set l (.loop .done (some (.goto t)) fn ts ps asg body d) = H2)
    (h : Out N R (.ret (.bool false)) H2) : RPost N l fn ts ps asg body d R (.goto t) a H := ⟨⟨pe, h1⟩, by subst hs; exact h⟩
theorem rpost_panic {l : Nat} {fn : FuncId} {ts2 : List AV} {ps : Array Tmp} {asg body : Code} {d : Nat} {ch : List APanic} {R : AE → List AO → Prop} (h : Out N R (.panic ch) H) : RPost N l fn ts ps asg body d R (.panic ch) ⟨ts2, []⟩ H := ⟨rfl, h⟩
theorem fpost_panic_mark {fn : Func} {R : AE → List AO → Prop} {id : Nat} {ch : List APanic} (h1 : H[id]? = some .defr) (hs : H.set id .dead = H2) (h : Out N R (.panic ch) H2) : FPost E N fn R (.panic ch) ⟨ts, [.mark id]⟩ H := by
  subst hs
  simp only [FPost, ALeave]; exact ⟨h1, h⟩

/-! ### Functions that are ranged over -/
/-- What a consumer makes of an element: it goes on, stops, or panics. -/
inductive Res (J O P : Type) where
  | go (j : J)
  | stop (o : O)
  | die (p : P)

def foldR {J O P X : Type} (step : J → X → Res J O P) : J → List X → Res J O P
  | j, [] => .go j
  | j, x :: xs => match step j x with
    | .go j' => foldR step j' xs
    | .stop o => .stop o
    | .die p => .die p

theorem foldR_append {J O P X : Type} {step : J → X → Res J O P} : ∀ (pre : List X) (j : J) (xs : List X), foldR step j (pre ++ xs) = match foldR step j pre with
    | .go j' => foldR step j' xs
    | .stop o => .stop o
    | .die p => .die p
  | [], j, xs => rfl
  | x :: pre, j, xs => by
    simp only [List.cons_append, foldR]
    cases step j x with
    | go j' => exact foldR_append pre j' xs
    | stop o => rfl
    | die p => rfl
theorem foldR_go {J O P X : Type} {step : J → X → Res J O P} {j j1 j2 : J} {pre : List X} {x : X} (h : foldR step j pre = .go j1) (h2 : step j1 x = .go j2) : foldR step j (pre ++ [x]) = .go j2 := by
  rw [foldR_append, h]; simp only [foldR, h2]
theorem foldR_stop {J O P X : Type} {step : J → X → Res J O P} {j j1 : J} {o : O} {pre post : List X} {x : X} (h : foldR step j pre = .go j1) (h2 : step j1 x = .stop o) : foldR step j (pre ++ x :: post) = .stop o := by
  rw [foldR_append, h]; simp only [foldR, h2]
theorem foldR_die {J O P X : Type} {step : J → X → Res J O P} {j j1 : J} {p : P} {pre post : List X} {x : X} (h : foldR step j pre = .go j1) (h2 : step j1 x = .die p) : foldR step j (pre ++ x :: post) = .die p := by
  rw [foldR_append, h]; simp only [foldR, h2]

variable {J O P X σ : Type}

/-- How a consumer's round ends. -/
def RoundEnd (G : J → σ → List AO) (S : O → σ → List AO) (T : P → σ → List AO) (ch : P → List APanic) (c : σ) (l : List AO) : Res J O P → AE → List AO → Prop
  | .go j, y, H => y = .ret (.bool true) ∧ H = G j c ++ l
  | .stop o, y, H => y = .ret (.bool false) ∧ H = S o c ++ l
  | .die p, y, H => y = .panic (ch p) ∧ H = T p c ++ l
/-- How a function that is ranged over ends. -/
def IterEnd (G : J → σ → List AO) (S : O → σ → List AO) (T : P → σ → List AO) (ch : P → List APanic) (r : Res J O P) : AE → List AO → Prop := fun y H => ∃ c, match r with
  | .go j => y = .ret (.tup []) ∧ H = G j c
  | .stop o => y = .ret (.tup []) ∧ H = S o c
  | .die p => y = .panic (ch p) ∧ H = T p c

/-- A consumer's rounds over some elements. -/
def Rounds (E : Env) (lp : Nat) (enc : X → List AV) (G : J → σ → List AO) (S : O → σ → List AO) (T : P → σ → List AO) (ch : P → List APanic) (step : J → X → Res J O P) (j0 : J) (xs : List X) : Prop :=
  ∀ pre x post j c l, xs = pre ++ x :: post → foldR step j0 pre = .go j → ARound E lp (enc x) (G j c ++ l) (RoundEnd G S T ch c l (step j x))

section
variable {lp : Nat} {enc : X → List AV} {G : J → σ → List AO} {S : O → σ → List AO} {T : P → σ → List AO} {ch : P → List APanic} {step : J → X → Res J O P} {j0 : J} {xs : List X}
theorem Rounds.go (h : Rounds E lp enc G S T ch step j0 xs) {pre post : List X} {x : X} {j j' : J} (c : σ) (l : List AO) (hx : xs = pre ++ x :: post) (hj : foldR step j0 pre = .go j) (hs : step j x = .go j') : Yld E lp (enc x) (G j c ++ l) (.bool true) (G j' c ++ l) := ⟨by
  have := h pre x post j c l hx hj; rw [hs] at this; exact this⟩
theorem Rounds.stop (h : Rounds E lp enc G S T ch step j0 xs) {pre post : List X} {x : X} {j : J} {o : O} (c : σ) (l : List AO) (hx : xs = pre ++ x :: post) (hj : foldR step j0 pre = .go j) (hs : step j x = .stop o) : Yld E lp (enc x) (G j c ++ l) (.bool false) (S o c ++ l) := ⟨by
  have := h pre x post j c l hx hj; rw [hs] at this; exact this⟩
theorem Rounds.die (h : Rounds E lp enc G S T ch step j0 xs) {pre post : List X} {x : X} {j : J} {p : P} (c : σ) (l : List AO) (hx : xs = pre ++ x :: post) (hj : foldR step j0 pre = .go j) (hs : step j x = .die p) : YldP E lp (enc x) (G j c ++ l) (ch p) (T p c ++ l) := ⟨by
  have := h pre x post j c l hx hj; rw [hs] at this; exact this⟩
theorem Rounds.go0 (h : Rounds E lp enc G S T ch step j0 xs) {pre post : List X} {x : X} {j j' : J} (c : σ) (hx : xs = pre ++ x :: post) (hj : foldR step j0 pre = .go j) (hs : step j x = .go j') : Yld E lp (enc x) (G j c) (.bool true) (G j' c) := by
  have := h.go c [] hx hj hs; rwa [List.append_nil, List.append_nil] at this
theorem Rounds.stop0 (h : Rounds E lp enc G S T ch step j0 xs) {pre post : List X} {x : X} {j : J} {o : O} (c : σ) (hx : xs = pre ++ x :: post) (hj : foldR step j0 pre = .go j) (hs : step j x = .stop o) : Yld E lp (enc x) (G j c) (.bool false) (S o c) := by
  have := h.stop c [] hx hj hs; rwa [List.append_nil, List.append_nil] at this
theorem Rounds.die0 (h : Rounds E lp enc G S T ch step j0 xs) {pre post : List X} {x : X} {j : J} {p : P} (c : σ) (hx : xs = pre ++ x :: post) (hj : foldR step j0 pre = .go j) (hs : step j x = .die p) : YldP E lp (enc x) (G j c) (ch p) (T p c) := by
  have := h.die c [] hx hj hs; rwa [List.append_nil, List.append_nil] at this
end

/-- **A range over a function**, from what the function does with any consumer. -/
theorem w_range {f : Operand} {ps : Array Tmp} {asg body : Code} {ts : List AV} {ds : List ADef} {fid : FuncId} {first cap : List AV} {n k : Nat} (enc : X → List AV) (Hc : J → σ → List AO) (Hs : O → σ → List AO) (Ht : P → σ → List AO) (ch : P → List APanic) (pend : O → Code) (step : J → X → Res J O P) (j0 : J) (c0 : σ) (xs : List X)
    (hH : H = Hc j0 c0) (hf : AAct.ev E.gl ⟨ts, ds⟩ f = .fn fid first cap) (hps : ps.size = k) (hn : H.length = n) (hnc : ∀ j c, (Hc j c).length = n) (hns : ∀ o c, (Hs o c).length = n) (henc : ∀ x, (enc x).length = k)
    (hfit : ∀ j c, Fit n (Hc j c)) (hfits : ∀ j c, Fit n (Hs j c)) (hts : belowL n ts = true)
    (hit : ∀ fn, let G := fun j c => Hc j c ++ [.defr, .loop .ready none fn ts ps asg body n]
      let S := fun o c => Hs o c ++ [.defr, .loop .done (some (pend o)) fn ts ps asg body n]
      let T := fun p c => Ht p c ++ [.defr, .loop .busy none fn ts ps asg body n]
      (∀ j c, Fit (n + 2) (G j c)) → (∀ j c, Fit (n + 2) (S j c)) → Rounds E (n + 1) enc G S T ch step j0 xs → AEnter E fid (first ++ [.yield (n + 1)] ++ cap) (G j0 c0) (IterEnd G S T ch (foldR step j0 xs)))
    (hround : ∀ fn pre x post j c l, xs = pre ++ x :: post → foldR step j0 pre = .go j → (Fit (n + (l.length + 1 + 1)) (Hc j c ++ .defr :: .loop .ready none fn ts ps asg body n :: l)) → W E (n + (l.length + 1 + 1)) (some (n + 1)) md asg (WRound E (n + (l.length + 1 + 1)) (n + 1) md fn ts ps asg body n none (RoundEnd (fun j c => Hc j c ++ [.defr, .loop .ready none fn ts ps asg body n]) (fun o c => Hs o c ++ [.defr, .loop .done (some (pend o)) fn ts ps asg body n]) (fun p c => Ht p c ++ [.defr, .loop .busy none fn ts ps asg body n]) ch c l (step j x)))
      ⟨roundTmps ts ps (enc x), []⟩ (Hc j c ++ .defr :: .loop .ready none fn ts ps asg body n :: l))
    (hall : ∀ j c, foldR step j0 xs = .go j → Q .normal ⟨ts, .mark n :: ds⟩ (Hc j c ++ [.defr, .dead]))
    (hstop : ∀ o c, foldR step j0 xs = .stop o → W E N none md (pend o) Q ⟨ts, .mark n :: ds⟩ (Hs o c ++ [.defr, .dead]))
    (hdie : ∀ fn p c, foldR step j0 xs = .die p → Q (.panic (ch p)) ⟨ts, .mark n :: ds⟩ (Ht p c ++ [.defr, .loop .busy none fn ts ps asg body n])) : W E N none md (.rangeFunc f ps asg body) Q ⟨ts, ds⟩ H := by
  have hfitl : ∀ (Hx : List AO) (st : LoopState) (pe : Option Code) (fn : FuncId), Hx.length = n → Fit n Hx → Fit (n + 2) (Hx ++ [.defr, .loop st pe fn ts ps asg body n]) := fun Hx st pe fn hl hf => by
    refine Fit.append (Fit.mono (by omega) hf) (fit_cons rfl (fit_cons ?_ fit_nil))
    simp only [AO.within, Bool.and_eq_true, decide_eq_true_eq]
    exact ⟨belowL_mono (by omega) _ hts, by omega⟩
  have hat : ∀ (Hx : List AO) (b : AO), Hx.length = n → (Hx ++ [.defr, b])[n + 1]? = some b := fun Hx b hl => by subst hl; exact getE Hx [.defr, b] 1
  have hput : ∀ (Hx : List AO) (b c : AO), Hx.length = n → (Hx ++ [.defr, b]).set (n + 1) c = Hx ++ [.defr, c] := fun Hx b c hl => by subst hl; exact setE Hx [.defr, b] 1 c
  refine w_rangeFunc (H2 := fun fn => H ++ [.defr, .loop .ready none fn ts ps asg body n]) hf hn rfl (fun _ => rfl) fun fn hfn => ?_
  subst hH
  refine AEnter.mono (hit fn (fun j c => hfitl _ _ _ _ (hnc j c) (hfit j c)) (fun o c => hfitl _ _ _ _ (hns o c) (hfits o c)) ?_) ?_
  · intro pre x post j c l hx hj
    have e : (Hc j c ++ [AO.defr, .loop .ready none fn ts ps asg body n] ++ l) = Hc j c ++ .defr :: .loop .ready none fn ts ps asg body n :: l := by simp
    rw [e]
    have hlen : (Hc j c ++ AO.defr :: .loop .ready none fn ts ps asg body n :: l).length = n + (l.length + 1 + 1) := by simp [hnc j c]
    refine ARound.go md (l := n + 1) (pe := none) (fn := fn) (ts := ts) (ps := ps) (asg := asg) (body := body) (d := n) (N := n + (l.length + 1 + 1)) ?_ hfn ?_ rfl hlen fun hft => hround fn pre x post j c l hx hj (by rw [← hlen]; exact hft)
    · rw [List.getElem?_append_right (by rw [hnc]; omega), hnc]
      simp
    · rw [henc, hps]
  · rintro y H' ⟨c, h⟩
    cases hr : foldR step j0 xs with
    | go j => rw [hr] at h; obtain ⟨rfl, rfl⟩ := h; exact rangeEnd_none (hat _ _ (hnc j c)) (by simp) (hput _ _ _ (hnc j c)) (hall j c hr)
    | stop o => rw [hr] at h; obtain ⟨rfl, rfl⟩ := h; exact rangeEnd_some md (hat _ _ (hns o c)) (by simp) (hput _ _ _ (hns o c)) (hstop o c hr)
    | die p => rw [hr] at h; obtain ⟨rfl, rfl⟩ := h; exact hdie fn p c hr

/-- A consumer that goes on as long as something holds. -/
noncomputable def stepAll {X : Type} (F : X → Prop) : Unit → X → Res Unit Unit Empty := fun _ x => if tf (F x) then .go () else .stop ()
theorem stepAll_t {X : Type} {F : X → Prop} {x : X} (h : F x) (j : Unit) : stepAll F j x = .go () := by unfold stepAll; rw [tf_true h]; rfl
theorem stepAll_f {X : Type} {F : X → Prop} {x : X} (h : ¬ F x) (j : Unit) : stepAll F j x = .stop () := by unfold stepAll; rw [tf_false h]; rfl
theorem foldR_all {X : Type} (F : X → Prop) : ∀ (xs : List X) (j : Unit), ((∀ x ∈ xs, F x) ∧ foldR (stepAll F) j xs = .go ()) ∨ ((¬ ∀ x ∈ xs, F x) ∧ foldR (stepAll F) j xs = .stop ())
  | [], j => .inl ⟨by simp, rfl⟩
  | x :: xs, j => by
    by_cases h : F x
    · simp only [foldR, stepAll_t h, List.forall_mem_cons]
      rcases foldR_all F xs () with ⟨h1, h2⟩ | ⟨h1, h2⟩
      · exact .inl ⟨⟨h, h1⟩, h2⟩
      · exact .inr ⟨fun hh => h1 hh.2, h2⟩
    · exact .inr ⟨fun hh => h (hh x (by simp)), by simp only [foldR, stepAll_f h]⟩

end Go.Ab

/- The abstract view, 29c: rows written out. -/
set_option linter.unusedVariables false
set_option linter.unusedSimpArgs false
namespace Go.Ab
open Go Go.RowKit

variable {E : Env} {md : Nat → Nat} {a : AAct} {H : List AO}

/-- A value of one cell that is written out. -/
def AV.leafV : AV → Bool
  | .bool _ => true
  | .int _ _ => true
  | .str _ => true
  | .fn _ _ _ => true
  | .nili => true
  | .iface _ _ => true
  | _ => false
theorem leafV_cells {v : AV} (h : v.leafV = true) : v.isTop = false ∧ cellsOf v = [v] := by
  cases v <;> simp_all [AV.leafV, AV.isTop, cellsOf]

theorem setRange_one (pre : List AV) (z : AV) (zs : List AV) (v : AV) : setRange (pre ++ z :: zs) pre.length [v] = pre ++ v :: zs := by
  simp [setRange]

theorem evFill_lit : ∀ (vs pre zs : List AV) (ps : List (Nat × AV)), zs.length = vs.length → (∀ v ∈ vs, v.leafV = true) → ps.map (·.2) = vs → ps.map (·.1) = List.range' pre.length vs.length →
    evFill (fun k => some (k * 1, 1)) (pre ++ zs) ps = some (pre ++ vs) := by
  intro vs
  induction vs with
  | nil =>
    intro pre zs ps hz _ h2 _
    have : ps = [] := by simpa using h2
    subst this
    have : zs = [] := by simpa using hz
    subst this
    rfl
  | cons v vs ih =>
    intro pre zs ps hz hl h2 h1
    match ps, h2, h1 with
    | (i, u) :: ps, h2, h1 =>
      match zs, hz with
      | z :: zs, hz =>
        simp only [List.map_cons, List.cons.injEq] at h2
        obtain ⟨rfl, h2'⟩ := h2
        simp only [List.map_cons, List.length_cons, List.range'_succ, List.cons.injEq] at h1
        obtain ⟨rfl, h1'⟩ := h1
        have hv := leafV_cells (hl _ (List.mem_cons_self ..))
        simp only [evFill, hv.1, hv.2, List.length_cons, List.length_nil, true_and, Nat.mul_one, List.length_append]
        rw [if_pos (by omega), setRange_one]
        have := ih (pre ++ [u]) zs ps (by simpa using hz) (fun x hx => hl x (List.mem_cons_of_mem _ hx)) h2' (by simpa using h1')
        simpa using this

def litTy (E : Env) (t : TypeId) (n : Nat) : Bool :=
  match E.ty t with
  | some i => match i.u with
    | .sl e => match E.ty e with
      | some j => j.size == 1 && j.zero.length == 1 && n ≤ 16777216
      | none => false
    | _ => false
  | none => false

theorem rep_length (zs : List AV) : ∀ n, (rep zs n).length = n * zs.length
  | 0 => by simp [rep]
  | n + 1 => by rw [rep, List.length_append, rep_length zs n, Nat.succ_mul, Nat.add_comm]

theorem evBuildSlice_lit {t : TypeId} {n : Nat} {parts : Array (Nat × Operand)} (ht : litTy E t n = true) (hidx : parts.toList.map (·.1) = List.range n) {vs : List AV} (hvs : parts.toList.map (fun p => AAct.ev E.gl a p.2) = vs)
    (hl : vs.all AV.leafV = true) : evBuildSlice E a t n parts = some vs := by
  unfold litTy at ht
  unfold evBuildSlice
  cases hi : E.ty t with
  | none => rw [hi] at ht; simp at ht
  | some i =>
    rw [hi] at ht
    simp only at ht ⊢
    cases hu : i.u with
    | sl e =>
      rw [hu] at ht
      simp only at ht ⊢
      cases hj : E.ty e with
      | none => rw [hj] at ht; simp at ht
      | some j =>
        rw [hj] at ht
        simp only [Bool.and_eq_true, beq_iff_eq, decide_eq_true_eq] at ht
        simp only [ht.1.1]
        rw [if_pos (by omega)]
        have hlen : vs.length = n := by
          have := congrArg List.length hidx
          rw [List.length_map, List.length_range] at this
          rw [← hvs, List.length_map]; exact this
        have := evFill_lit vs [] (rep j.zero n) (evParts a E.gl parts) (by rw [rep_length, ht.1.2, hlen]; omega) (fun v hv => by simpa using List.all_eq_true.mp hl v hv)
          (by rw [← hvs]; simp [evParts]) (by rw [hlen]; simp only [evParts, List.map_map, Function.comp_def, List.length_nil]; rw [hidx, List.range_eq_range'])
        simpa using this
    | _ => rw [hu] at ht; simp at ht

theorem evHeap_lit2 {o : Oper} {t : TypeId} {n : Nat} {parts : Array (Nat × Operand)} (ho : o.op = .buildSlice t n parts) (hidx : parts.toList.map (·.1) = List.range n) (hmd : (md (o.dst.getD 0) == 2) = true) (ht : litTy E t n = true)
    {vs : List AV} (hvs : parts.toList.map (fun p => AAct.ev E.gl a p.2) = vs) (hl : vs.all AV.leafV = true) : evHeap E md a H o = some (.msl H.length 0 n, H ++ [.cells vs]) := by
  unfold evHeap
  rw [ho]
  simp only [evBuildSlice_lit ht hidx hvs hl]
  rw [if_pos (by simpa using hmd)]
theorem evHeap_lit0 {o : Oper} {t : TypeId} {n : Nat} {parts : Array (Nat × Operand)} (ho : o.op = .buildSlice t n parts) (hidx : parts.toList.map (·.1) = List.range n) (hmd : (md (o.dst.getD 0) == 2) = false) (ht : litTy E t n = true)
    {vs : List AV} (hvs : parts.toList.map (fun p => AAct.ev E.gl a p.2) = vs) (hl : vs.all AV.leafV = true) : evHeap E md a H o = some (.sl n vs .full, H) := by
  unfold evHeap
  rw [ho]
  simp only [evBuildSlice_lit ht hidx hvs hl]
  rw [if_neg (by simpa using hmd)]

end Go.Ab

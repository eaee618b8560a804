/- Walks: slices.Clone of bytes and of strings: a row of one's own, with room behind. -/
import Derived.Test.YtocoejhiphcehaaGreatDoorAb35
import Derived.Test.YtocoejhiphcehaaGreatDoorLConvA
import Derived.Test.YtocoejhiphcehaaGreatDoorLRound
import Derived.Test.YtocoejhiphcehaaGreatDoorShSl
set_option linter.unusedSimpArgs false
set_option linter.unusedVariables false
set_option maxHeartbeats 4000000
set_option maxRecDepth 10000
namespace Go.Ab
open Go Go.RowKit
variable {g : Ghost} {H : List AO} {w w' : World} {n0 : Nat} {w0 : World} {gl : Nat → List AV}
/-- A new row that is known, with room behind it. -/
theorem Rep.new_row (hr : Rep n0 w0 gl g H w) (hb : Below w.heap.size w w') {b : Nat} (hlt : w.heap.size ≤ b) {cs : Array Value} {T : TypeId} (hc : w'.heap[b]? = some (.cells cs T (0, 0))) (sz n cap : Nat) (xs : List AV) (hl : xs.length = n * sz) (hn : n ≤ cap) (hcs : cap * sz ≤ cs.size) (hx : ∀ k, VRel g (xs.getD k .top) (if k < n * sz then cs.getD k undef else undef)) :
    ∃ g', GLe g g' ∧ Rep n0 w0 gl g' (H ++ [.tail sz n]) w' ∧ VRel g' (.sl n xs (.at H.length n)) (.slice (some ⟨b, 0, none⟩) n cap) := by
  have hn0 : n0 ≤ w.heap.size := Nat.le_trans hr.n0le hr.below.size
  have h1 := Rep.learned hr hb hlt hc (n * sz)
  have hmul : n * sz + (cap - n) * sz = cap * sz := by rw [← Nat.add_mul]; congr 1; omega
  have hle : n * sz ≤ cap * sz := Nat.mul_le_mul_right _ hn
  have l1 := g.learn_le b (fun o => if o < n * sz then cs[o]? else none)
  have hfree : ∀ i, own (g.learn b (fun o => if o < n * sz then cs[o]? else none)) H i ≠ some b := fun i hi => by
    have hi2 : own g H i = some b := hi
    exact absurd (hr.own_lt hi2).1 (by omega)
  have hK : ∀ o, n * sz ≤ o → (g.learn b (fun o => if o < n * sz then cs[o]? else none)).K b o = none := fun o ho => by
    show (if b = b then (match g.K b o with | some v => some v | none => if o < n * sz then cs[o]? else none) else g.K b o) = none
    rw [if_pos rfl]
    cases h : g.K b o with
    | none => simp only; rw [if_neg (by omega)]
    | some v => exact absurd (hr.K_lt h) (by omega)
  obtain ⟨q1, q2⟩ := Rep.new_tok h1 sz n ⟨b, n * sz, cap - n⟩ (.inr ⟨cs, T, (0, 0), by simp only; omega, hc, by simp only; omega, fun k _ _ => by simp, hK⟩) (fun _ => hfree)
  refine ⟨_, l1.trans q2, q1, .sl n xs _ b 0 cap (fun k => if k < n * sz then cs.getD k undef else undef) hn (fun i hi => ?_) (fun i => ((hx i).mono l1).mono q2) ⟨_, setTok_same _ _ _ _, rfl, .inr ⟨rfl, by simp [hl]⟩⟩⟩
  have hi' : i < n * sz := by omega
  rw [if_pos hi']
  refine q2.K _ _ _ ?_
  refine learned_at hr hlt cs (n * sz) (0 + i) (by omega) ?_
  rw [Nat.zero_add, Array.getD_eq_getD_getElem?, Array.getElem?_eq_getElem (by omega)]; rfl
end Go.Ab

namespace Go.Ab.Tryz
open Go Go.Ab Go.Proofs Go.RowKit Go.Shelf
attribute [local irreducible] W Wl Wop TrA WSeq WLoopS FPost DPost RPost WRound DK onEnd
variable {n0 : Nat} {w0 : World} {gl : Nat → List AV} {H : List AO}

theorem clone_gen {ρ : Go.Shelf.Ren} (L : SlLaysE0.n41 Tryz.prog ρ) {fn : Func} (hf : Tryz.prog.funcs[ρ.f 41]? = some fn) (hfn : (fn.name == "runtime.NumGoroutine") = false) {cd : Code} (hfb : fn.body = some cd) {inf : TypeInfo} {z : Value} {by_ : Nat} (p1 : Tryz.prog.info? (ρ.t 23) = some inf) (p2 : inf.zero = some z) (p3 : inf.size = 1) (p4 : inf.bytes = by_) (p5 : z.cells.size = 1) (z23 : ∀ w, (Go.sizeOf (ρ.t 23)).run Tryz.prog w = .ok 1 w)
    (n : Nat) (xs : List AV) (tok : Tok) (hl : xs.length = n) (hn : n ≤ 1000000000) (hbig : n * by_ ≤ 140737488355328) (hone : xs.all AV.one = true) :
    AEnter (env n0 w0 gl) (ρ.f 41) [.sl n xs tok] H (fun y H' => y = .ret (.sl n xs (.at H.length n)) ∧ H' = H ++ [.tail 1 n]) :=
  AEnter.of_calls (fn := fn) hf hfn hfb fun g w cs hr hv => by
    obtain ⟨c, rfl, h1⟩ := rels1 hv
    have hm : maxLen = 9223372036854775807 := by decide
    obtain ⟨base, cap, rfl, hncap, olds, hol, hor, horun, hbase⟩ := sl_cells (E := env n0 w0 gl) (sz := 1) hr h1 (by omega)
    have nil_ : n = 0 → ∀ c, Calls Tryz.prog (ρ.f 41) #[.slice none n c] w (EConc (env n0 w0 gl) g (fun y H' => y = .ret (.sl n xs (.at H.length n)) ∧ H' = H ++ [.tail 1 n])) := by
      intro h0 c
      subst h0
      obtain rfl : xs = [] := List.length_eq_zero_iff.1 hl
      refine (AnyE.slices_Clone_nil (P := Tryz.prog) L 0 c w).mono ?_
      rintro e w' ⟨rfl, rfl⟩
      obtain ⟨g', q1, q2, q3⟩ := Rep.no_room hr 1 none
      exact ⟨_, _, g', ⟨rfl, rfl⟩, q1, q2, .ret q3⟩
    have some_ : ∀ b o sp cap, (∀ j u, olds[j]? = some u → w.cell? ((⟨b, o, sp⟩ : Addr).add j) = some u) → Calls Tryz.prog (ρ.f 41) #[.slice (some ⟨b, o, sp⟩) n cap] w (EConc (env n0 w0 gl) g (fun y H' => y = .ret (.sl n xs (.at H.length n)) ∧ H' = H ++ [.tail 1 n])) := by
      intro b o sp cap hcell
      refine (clone_any (P := Tryz.prog) L inf z 1 by_ p1 p2 p3 p4 p5 (by decide) z23 b o sp n cap olds w (by omega) (by omega) hbig hcell (fun u hu => ?_)).mono ?_
      · obtain ⟨k, hk, rfl⟩ := List.getElem_of_mem hu
        have hrel := hor k
        rw [List.getD_eq_getElem?_getD, List.getElem?_eq_getElem (by omega), List.getD_eq_getElem?_getD, List.getElem?_eq_getElem hk] at hrel
        exact one_rel hrel (List.all_eq_true.1 hone _ (List.getElem_mem (by omega)))
      · rintro e w' ⟨v', rfl, ⟨_, ⟨rfl, _⟩ | ⟨g2, cap2, cur, rfl, hg2, hc2, hn2, _, hcs, htk⟩⟩, hne, hbel⟩
        · exact absurd rfl hne
        · obtain ⟨g', q1, q2, q3⟩ := Rep.new_row hr hbel hg2 hc2 1 n cap2 xs (by omega) hn2 (by omega) (fun k => by
            by_cases hk : k < n * 1
            · rw [if_pos hk]
              have h3 := congrArg (fun l => l.getD k undef) htk
              simp only [List.getD_eq_getElem?_getD, List.getElem?_take, if_pos hk, Array.getElem?_toList] at h3
              have h4 := hor k
              rw [Array.getD_eq_getD_getElem?, h3]
              rw [List.getD_eq_getElem?_getD (l := olds)] at h4
              exact h4
            · rw [if_neg hk, List.getD_eq_getElem?_getD, List.getElem?_eq_none (by omega)]; exact .top _)
          exact ⟨_, _, g', ⟨rfl, rfl⟩, q1, q2, .ret q3⟩
    rcases hbase with ⟨_, rfl, rfl, rfl, _⟩ | ⟨b, o, rfl, hK, _⟩
    · cases base with
      | none => exact nil_ rfl _
      | some a => exact some_ a.block a.off a.spot _ (fun j u hj => by
          have : olds = [] := List.length_eq_zero_iff.1 (by simpa using hol)
          rw [this] at hj; simp at hj)
    · exact some_ b o none _ (fun j u hj => by
        have hj2 := (List.getElem?_eq_some_iff.1 hj).1
        rw [addr_plus]
        have := hr.know _ _ _ (hK j (by omega))
        rw [List.getD_eq_getElem?_getD, hj] at this
        exact this)

instance cloneB_t (n : Nat) (s : List UInt8) (tok : Tok) : Ctr (env n0 w0 gl) 28 [.sl n (bytesAV s) tok] H (s.length = n ∧ n ≤ 1000000000) (.sl n (bytesAV s) (.at H.length n)) (H ++ [.tail 1 n]) := .of fun ⟨h1, h2⟩ => by
  obtain ⟨z, inf, p1, p2, p3, p4, p5, p6, _, hz, p9⟩ := ((env n0 w0 gl).ok 5 _ (by rw [ty5])).info
  exact clone_gen (ρ := Tryz.cloneB_ren) Tryz.cloneB (fn := Tryz.f28) Tryz.func28 rfl rfl p1 p2 p3 p4 p5 (fun w => Tryz.sizeOf5 w) n (bytesAV s) tok (by simp [bytesAV, h1]) h2 (by have : (1 : Nat) = 1 := rfl; show n * 1 ≤ _; omega) (by simp [bytesAV, byteAV, AV.one])

instance cloneS_t (n : Nat) (l : List (List UInt8)) (tok : Tok) : Ctr (env n0 w0 gl) 27 [.sl n (l.map .str) tok] H (l.length = n ∧ n ≤ 1000000000) (.sl n (l.map .str) (.at H.length n)) (H ++ [.tail 1 n]) := .of fun ⟨h1, h2⟩ => by
  obtain ⟨z, inf, p1, p2, p3, p4, p5, p6, _, hz, p9⟩ := ((env n0 w0 gl).ok 9 _ (by rw [ty9])).info
  exact clone_gen (ρ := Tryz.cloneS_ren) Tryz.cloneS (fn := Tryz.f27) Tryz.func27 rfl rfl p1 p2 p3 p4 p5 (fun w => Tryz.sizeOf9 w) n (l.map .str) tok (by simp [h1]) h2 (by show n * 16 ≤ _; omega) (by simp [AV.one])

end Go.Ab.Tryz

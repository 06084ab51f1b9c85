/- The reference's gathering: terms in order, those of one key added. The reference's products of coded terms. The reference's products and powers of sums. The reference's powers of sums. The program's sums: what is right, keys, comparisons. Keys of the program's sums, and their building. The program's powers of sums, over its products. A map of padded exponents as a sum. The program's products of sums, over the end of a building. Powers of sums: the program's are the reference's, fresh at each call. Seeds and sessions: what is equal, marks. The first seed and the first session, on both sides. Least exponents, denominators, numerators. Division of sums in variables: two ways to test whether to go on lead to the same. What a division keeps from step to step. Greatest exponents, sums of coded terms, division: the reference's side. Printed by wip/tools/lay.py: the contracts of slices.SortFunc laid at this seat. slices.SortFunc in the calculus: from a contract over worlds to a contract over trees. The end of a building, over a sort. The sort of terms by their exponents, greatest first, at this program. The program's sums: all contracts without a premise left. Drawing: the cursor, numbers, exponents, sums. Drawing sums: what is drawn is right and small. Three drawn sums; what the laws compare. Drawing numbers to be put in place of variables. Sums as linear maps: what a function on keys makes of a sum. The program's sums of sums. Values of Laurent sums modulo a prime: they go with sums and products. Values of sums: the program's, and the reference's where there is none. No condition. -/
import Derived.Test.YtocknokodgnlbaaKQc
import Derived.Shelf.SlLaysF0
import Derived.Test.YtocknokodgnlbaaProg
import Derived.Shelf.SlSortCmp.InsertionK
import Derived.Shelf.SlSortFuncK.ComposeK
import Derived.Shelf.SlSortCmp.NoneTotal
set_option linter.unusedVariables false
set_option linter.unusedSimpArgs false
namespace Go.Proofs.Ytocknokodgnlbaa.Ab
open Go
set_option linter.unusedSimpArgs false
set_option linter.unusedVariables false
set_option maxRecDepth 10000
set_option maxHeartbeats 2000000
def sgm (out : List (Int × Int)) (a b : Nat) : List (Int × Int) := (out.drop a).take (b - a)
theorem sgm_cons {out : List (Int × Int)} {a b : Nat} (h : a < b) (h2 : a < out.length) : sgm out a b = out[a] :: sgm out (a + 1) b := by
  unfold sgm
  rw [List.drop_eq_getElem_cons h2, show b - a = (b - (a + 1)) + 1 by omega, List.take_succ_cons]
theorem sgm_nil {out : List (Int × Int)} {a b : Nat} (h : b ≤ a) : sgm out a b = [] := by
  unfold sgm
  rw [show b - a = 0 by omega, List.take_zero]
theorem sgm_runs {out : List (Int × Int)} {size at_ k b : Nat} (hr : Runs kle size out) (ha : at_ = size * k) (hb : b = min (at_ + size) out.length) : (sgm out at_ b).Pairwise fun a b => kle a b = true := by
  have := hr k
  rw [← ha] at this
  have e : sgm out at_ b = (out.drop at_).take size := by
    unfold sgm
    rw [hb]
    rcases Nat.le_total (at_ + size) out.length with h | h
    · rw [Nat.min_eq_left h, show at_ + size - at_ = size by omega]
    · rw [Nat.min_eq_right h, List.take_of_length_le (by simp), List.take_of_length_le (by simp; omega)]
  rw [e]
  exact this
theorem sgm_take {out : List (Int × Int)} {a b c : Nat} (h1 : a ≤ b) (h2 : b ≤ c) : out.take a ++ (sgm out a b ++ sgm out b c) = out.take c := by
  unfold sgm
  have e1 : out.take b = out.take a ++ (out.drop a).take (b - a) := by
    conv => lhs; rw [show b = a + (b - a) by omega, List.take_add]
  have e2 : out.take c = out.take b ++ (out.drop b).take (c - b) := by
    conv => lhs; rw [show c = b + (c - b) by omega, List.take_add]
  rw [e2, e1, List.append_assoc]
theorem getD_at {out : List (Int × Int)} {i : Nat} (h : i < out.length) : out.getD i (0, 0) = out[i] := by
  simp [List.getD_eq_getElem?_getD, h]
theorem tkM {G : List (Int × Int)} {m N : Nat} (hN : G.length = N) (hm : m ≤ N) : takeCells 2 m N (rows gM G) = rows gM (G.take m) := by
  unfold takeCells
  split
  · rename_i e
    rw [e, ← hN, List.take_length]
  · exact rows_take gM_two G m
theorem head_next {out : List (Int × Int)} {k : Nat} (hk : k < out.length) : ((out.drop (k + 1)).head?.map (·.1) = some out[k].1) ↔ ¬ (k + 1 = out.length ∨ (out.getD (k + 1) (0, 0)).1 ≠ (out.getD k (0, 0)).1) := by
  rw [List.head?_drop, getD_at hk]
  rcases Nat.lt_or_ge (k + 1) out.length with h | h
  · rw [getD_at h, List.getElem?_eq_getElem h]
    simp
    omega
  · rw [List.getElem?_eq_none h]
    simp
    omega
theorem addLast_same {l : List (Int × Int)} {q : Nat} {x : Int × Int} (hq : q < l.length) (e : l[q].1 = x.1) : addLast (l.take (q + 1)) x = (l.set q (l[q].1, l[q].2 + x.2)).take (q + 1) := by
  have h1 : (l.set q (l[q].1, l[q].2 + x.2)).take (q + 1) = l.take q ++ [(l[q].1, l[q].2 + x.2)] := by
    rw [List.take_succ_eq_append_getElem (by simpa using hq), List.getElem_set_self, List.take_set_of_le (Nat.le_refl q)]
  rw [h1, List.take_succ_eq_append_getElem hq]
  unfold addLast
  rw [show (l.take q ++ [l[q]]).getLast? = some l[q] by simp only [List.getLast?_append, List.getLast?_singleton, Option.some_or]]
  simp only [if_pos e, List.dropLast_concat]
theorem addLast_new {l : List (Int × Int)} {m : Nat} {x : Int × Int} (hm : m ≤ l.length) (e : ¬ (0 < m ∧ (l.getD (m - 1) (0, 0)).1 = x.1)) : addLast (l.take m) x = l.take m ++ [x] := by
  rcases Nat.eq_zero_or_pos m with rfl | h
  · simp [addLast]
  · obtain ⟨q, rfl⟩ : ∃ q, m = q + 1 := ⟨m - 1, by omega⟩
    have hq : q < l.length := by omega
    rw [show q + 1 - 1 = q by omega, getD_at hq] at e
    rw [List.take_succ_eq_append_getElem hq]
    unfold addLast
    simp only [List.getLast?_append, List.getLast?_singleton, Option.some_or]
    rw [if_neg (fun h => e ⟨by omega, h⟩)]
theorem cutLast_at {l : List (Int × Int)} {q : Nat} (hq : q < l.length) : cutLast (l.take (q + 1)) = if l[q].2 = 0 then l.take q else l.take (q + 1) := by
  have h1 := List.take_succ_eq_append_getElem hq
  unfold cutLast
  rw [h1, show (l.take q ++ [l[q]]).getLast? = some l[q] by simp only [List.getLast?_append, List.getLast?_singleton, Option.some_or]]
  simp only [List.dropLast_concat]
theorem ofL_pad3 (a b c : Nat × FV) : ofL [a, b, c] = ofL [a, b, c, (0, .dead)] := by
  funext t
  simp only [ofL]
  split
  · rfl
  · split
    · rfl
    · split
      · rfl
      · split <;> rfl
theorem pair_eta (x : Int × Int) : (x.1, x.2) = x := rfl
theorem spec_l2Gather_calls (l : List (Int × Int)) (hl : l.length ≤ 1000000) (hc : absL l < 4611686018427387904) : ACalls Try.prog F.spec_l2Gather [.d (.sh 2 l.length (rows gM l))] [] true (fun outs res => outs = [] ∧ res = [.one (.ow 2 (nf ilt l).length (rows gM (nf ilt l)))]) := by
  refine ACalls.of_body (C := C.spec_l2Gather) (n := Try.f115.ntmps) tabT folT Try.func115 rfl (by kernel_rfl) rfl (Nat.le_of_ble_eq_true rfl) (by decide) (by kernel_rfl) (by kernel_rfl) rfl (by simp) (by simp) ?_
  simp only [Try.f115]
  refine wseq ?_
  refine wreg fun K hK => ?_
  simp [C.spec_l2Gather]
  refine hK _ ?_; clear hK K
  show AWp _ _ _ _ _
  refine wseq ?_
  refine wreg fun K hK => ?_
  simp [C.spec_l2Gather, show l.length * 16 ≤ 140737488355328 by omega]
  refine hK _ ?_; clear hK K
  show AWp _ _ _ _ _
  refine wseq ?_
  refine wseq ?_
  refine wreg fun K hK => ?_
  simp [C.spec_l2Gather]
  refine hK _ ?_; clear hK K
  show AWp _ _ _ _ _
  refine wblock ?_
  refine wloop (fun x : Nat × List (Int × Int) => ⟨ofL [(3, .al (3, 0) [] 0 l.length), (4, .int x.1)], ofRO [((3, 0), some (.ow 2 l.length (rows gM x.2)))]⟩) (fun x => x.2.Perm l ∧ Runs kle x.1 x.2 ∧ 1 ≤ x.1 ∧ x.1 ≤ 2 * l.length + 1) (fun x => 2 * l.length + 1 - x.1) (1, l) (by simp [C.spec_l2Gather]) ⟨List.Perm.refl _, runs_one _, by simp, by dsimp only; omega⟩ ?_
  intro x1 hx1 R1 hR1
  obtain ⟨size, out⟩ := x1
  obtain ⟨hperm, hruns, hs1, hs2⟩ := hx1
  dsimp only at hperm hruns hs1 hs2 ⊢
  have hol : out.length = l.length := hperm.length_eq
  refine wseq ?_
  refine wseq ?_
  refine wreg fun K hK => ?_
  simp [C.spec_l2Gather]
  refine hK _ ?_; clear hK K
  show AWp _ _ _ _ _
  refine wcond _ rfl (fun hc1 => ?_) (fun hc1 => ?_)
  · have hlt : size < l.length := by have := d_t hc1; omega
    refine wskip ?_
    show AWp _ _ _ _ _
    refine wseq ?_
    refine wblock ?_
    refine wseq ?_
    refine wreg fun K hK => ?_
    simp [C.spec_l2Gather, show (16 : Int) * l.length ≤ 281474976710656 by omega, show (l.length : Int) ≤ 281474976710656 by omega]
    refine hK _ ?_; clear hK K
    show AWp _ _ _ _ _
    refine wseq ?_
    refine wseq ?_
    refine wreg fun K hK => ?_
    simp [C.spec_l2Gather]
    refine hK _ ?_; clear hK K
    show AWp _ _ _ _ _
    refine wblock ?_
    refine wloop (fun x : Nat × List (Int × Int) × Nat => ⟨ofL [(3, .al (3, 0) [] 0 l.length), (4, .int size), (5, .al (5, 0) [] 0 x.2.2), (6, .int x.1)], ofRO [((3, 0), some (.ow 2 l.length (rows gM out))), ((5, 0), some (.ow 2 x.2.2 (rows gM x.2.1)))]⟩) (fun x => (∃ k, x.1 = 2 * size * k) ∧ x.2.2 = x.2.1.length ∧ x.2.1.length = min x.1 l.length ∧ x.2.1.Perm (out.take x.1) ∧ Runs kle (2 * size) x.2.1 ∧ x.1 ≤ l.length + 2 * size) (fun x => l.length + 2 * size - x.1) (0, [], 0) (by simp [C.spec_l2Gather, rows]) ⟨⟨0, rfl⟩, rfl, by simp, by simp, fun k => by simp, by dsimp only; omega⟩ ?_
    intro x2 hx2 R2 hR2
    obtain ⟨at_, next, m⟩ := x2
    obtain ⟨⟨k, hk⟩, hm, hnl, hnp, hnr, hab⟩ := hx2
    dsimp only at hk hm hnl hnp hnr hab ⊢
    refine wseq ?_
    refine wseq ?_
    refine wreg fun K hK => ?_
    simp [C.spec_l2Gather]
    refine hK _ ?_; clear hK K
    show AWp _ _ _ _ _
    refine wcond _ rfl (fun hc2 => ?_) (fun hc2 => ?_)
    · have hat : at_ < l.length := by have := d_t hc2; omega
      have hnl2 : next.length = at_ := by omega
      obtain ⟨mid, hmid⟩ : ∃ mid, mid = min (at_ + size) l.length := ⟨_, rfl⟩
      obtain ⟨en, hen⟩ : ∃ en, en = min (at_ + 2 * size) l.length := ⟨_, rfl⟩
      have hmid2 : min ((at_ : Int) + size) l.length = (mid : Int) := by omega
      have hen2 : min ((at_ : Int) + 2 * size) l.length = (en : Int) := by omega
      refine wskip ?_
      show AWp _ _ _ _ _
      refine wseq ?_
      refine wblock ?_
      refine wseq ?_
      refine wreg fun K hK => ?_
      simp [C.spec_l2Gather]
      refine hK _ ?_; clear hK K
      show AWp _ _ _ _ _
      refine wseq ?_
      refine wreg fun K hK => ?_
      simp [C.spec_l2Gather]
      rw [wrapOk (x := (at_ : Int) + size) (by omega) (by omega), hmid2]
      refine hK _ ?_; clear hK K
      show AWp _ _ _ _ _
      refine wseq ?_
      refine wreg fun K hK => ?_
      simp [C.spec_l2Gather]
      refine hK _ ?_; clear hK K
      show AWp _ _ _ _ _
      refine wseq ?_
      refine wreg fun K hK => ?_
      simp [C.spec_l2Gather]
      rw [wrapOk (x := 2 * (size : Int)) (by omega) (by omega), wrapOk (x := (at_ : Int) + 2 * size) (by omega) (by omega), hen2]
      refine hK _ ?_; clear hK K
      show AWp _ _ _ _ _
      refine wblock ?_
      refine wloop (fun x : Nat × Nat × List (Int × Int) × Nat => ⟨ofL [(3, .al (3, 0) [] 0 l.length), (4, .int size), (5, .al (5, 0) [] 0 x.2.2.2), (6, .int at_), (7, .int x.1), (8, .int mid), (9, .int x.2.1), (10, .int en)], ofRO [((3, 0), some (.ow 2 l.length (rows gM out))), ((5, 0), some (.ow 2 x.2.2.2 (rows gM x.2.2.1)))]⟩) (fun x => x.1 ≤ mid ∧ x.2.1 ≤ en ∧ mid ≤ x.2.1 ∧ x.2.2.2 = x.2.2.1.length ∧ x.2.2.2 ≤ 3000000 - ((mid - x.1) + (en - x.2.1)) ∧ ∃ M, x.2.2.1 = next ++ M ∧ M ++ List.merge (sgm out x.1 mid) (sgm out x.2.1 en) kle = List.merge (sgm out at_ mid) (sgm out mid en) kle) (fun x => (mid - x.1) + (en - x.2.1)) (at_, mid, next, m) (by simp [C.spec_l2Gather]) ⟨by dsimp only; omega, by dsimp only; omega, by dsimp only; omega, hm, by dsimp only; omega, [], by simp, by simp⟩ ?_
      intro x3 hx3 R3 hR3
      obtain ⟨i, j, nx, mm⟩ := x3
      obtain ⟨h1, h2, h3, h4, h5, M, h6, h7⟩ := hx3
      dsimp only at h1 h2 h3 h4 h5 h6 h7 ⊢
      refine wseq ?_
      refine wseq ?_
      refine wreg fun K hK => ?_
      have hJ : K ⟨ofL [(3, .al (3, 0) [] 0 l.length), (4, .int size), (5, .al (5, 0) [] 0 mm), (6, .int at_), (7, .int i), (8, .int mid), (9, .int j), (10, .int en), (55, .bool (decide (i < mid ∨ j < en)))], ofRO [((3, 0), some (.ow 2 l.length (rows gM out))), ((5, 0), some (.ow 2 mm (rows gM nx)))]⟩ := by
        refine hK _ ?_; clear hK K
        show AWp _ _ _ _ _
        refine wcond _ rfl (fun hc3 => ?_) (fun hc3 => ?_)
        · have hij := d_t hc3
          refine wskip ?_
          show AWp _ _ _ _ _
          refine wblock ?_
          refine wseq ?_
          refine wdrawI [(true, 0), (true, 1), (true, 2), (true, 3), (true, 4), (true, 5), (true, 6), (true, 7), (true, 8), (true, 9), (true, 10), (true, 11), (true, 12), (true, 13), (true, 14), (true, 15), (true, 16), (true, 17), (true, 18), (true, 19), (true, 20)] ⟨by kernel_rfl, by kernel_rfl⟩ ([0, 1, 2, 3, 4, 5, 6, 7, 8, 9, 10, 11, 12, 13, 14, 15, 16, 17, 18, 19, 20]) rfl fun K hK => ?_
          have hJ : K ⟨ofL [(3, .al (3, 0) [] 0 l.length), (4, .int size), (5, .al (5, 0) [] 0 mm), (6, .int at_), (7, .int i), (8, .int mid), (9, .int j), (10, .int en), (76, .bool (decide (en ≤ j ∨ (i < mid ∧ (out.getD j (0, 0)).1 ≤ (out.getD i (0, 0)).1))))], ofRO [((3, 0), some (.ow 2 l.length (rows gM out))), ((5, 0), some (.ow 2 mm (rows gM nx)))]⟩ := by
            refine hK _ ?_; clear hK K
            show AWp _ _ _ _ _
            refine wcond _ rfl (fun hc4 => ?_) (fun hc4 => ?_)
            · have hcc := d_t hc4
              have him : i < mid := by omega
              have hi : i < out.length := by omega
              have hi' : i < l.length := by omega
              refine wseq ?_
              refine wreg fun K hK => ?_
              simp [C.spec_l2Gather, hi', gM_0 hi, gM_1 hi, gM_snoc, pair_eta, show (mm + 1) * 16 ≤ 140737488355328 by omega]
              refine hK _ ?_; clear hK K
              show AWp _ _ _ _ _
              refine wreg fun K hK => ?_
              simp [C.spec_l2Gather, wrap_succ (show i < 4611686018427387904 by omega)]
              refine hK _ ?_; clear hK K
              simp [C.spec_l2Gather]
              refine hR3 (i + 1, j, _, mm + 1) ⟨him, h2, h3, by dsimp only; rw [h4]; simp, by dsimp only; omega, M ++ [out[i]], by dsimp only; rw [h6, List.append_assoc], ?_⟩ (by dsimp only; omega)
              dsimp only
              rw [← h7, List.append_assoc, sgm_cons him hi]
              rcases Nat.lt_or_ge j en with hje | hje
              · have hj : j < out.length := by omega
                rw [sgm_cons hje hj, mrg_cons]
                have hk' : kle out[i] out[j] = true := by
                  rcases hcc with hcc | ⟨_, hcc⟩
                  · omega
                  · rw [getD_at hi, getD_at hj] at hcc
                    simpa [kle] using hcc
                rw [if_pos hk']
                rfl
              · rw [sgm_nil hje, mrg_nil_right, mrg_nil_right]
                rfl
            · have hcc := d_f hc4
              have hje : j < en := by omega
              have hj : j < out.length := by omega
              have hj' : j < l.length := by omega
              refine wseq ?_
              refine wreg fun K hK => ?_
              simp [C.spec_l2Gather, hj', gM_0 hj, gM_1 hj, gM_snoc, pair_eta, show (mm + 1) * 16 ≤ 140737488355328 by omega]
              refine hK _ ?_; clear hK K
              show AWp _ _ _ _ _
              refine wreg fun K hK => ?_
              simp [C.spec_l2Gather, wrap_succ (show j < 4611686018427387904 by omega)]
              refine hK _ ?_; clear hK K
              simp [C.spec_l2Gather]
              refine hR3 (i, j + 1, _, mm + 1) ⟨h1, hje, by dsimp only; omega, by dsimp only; rw [h4]; simp, by dsimp only; omega, M ++ [out[j]], by dsimp only; rw [h6, List.append_assoc], ?_⟩ (by dsimp only; omega)
              dsimp only
              rw [← h7, List.append_assoc, sgm_cons hje hj]
              rcases Nat.lt_or_ge i mid with him | him
              · have hi : i < out.length := by omega
                rw [sgm_cons him hi, mrg_cons]
                have hk' : ¬ kle out[i] out[j] = true := by
                  intro hk'
                  refine hcc (.inr ⟨him, ?_⟩)
                  rw [getD_at hi, getD_at hj]
                  simpa [kle] using hk'
                rw [if_neg hk']
                rfl
              · rw [sgm_nil him, mrg_nil_left, mrg_nil_left]
                rfl
          clear hK
          by_cases ha : en ≤ j
          · refine opsI_end fun L hL => ?_
            simp [C.spec_l2Gather, ha]
            refine hL _ ?_; clear hL L
            simp [C.spec_l2Gather, ha]
            refine cast (congrArg K ?_) hJ
            simp [ha]
          · by_cases hb : i < mid
            · have hi : i < out.length := by omega
              have hj : j < out.length := by omega
              have hi' : i < l.length := by omega
              have hj' : j < l.length := by omega
              refine opsI_end fun L hL => ?_
              simp [C.spec_l2Gather, hi', hj', gM_0 hi, gM_0 hj, ha, hb]
              refine hL _ ?_; clear hL L
              simp [C.spec_l2Gather, hi', hj', gM_0 hi, gM_0 hj, ha, hb]
              refine cast (congrArg K ?_) hJ
              simp [List.getD_eq_getElem?_getD, hi, hj, ha, hb]
            · refine opsI_end fun L hL => ?_
              simp [C.spec_l2Gather, ha, hb]
              refine hL _ ?_; clear hL L
              simp [C.spec_l2Gather, ha, hb]
              refine cast (congrArg K ?_) hJ
              simp [ha, hb]
        · have hij := d_f hc3
          have ei : mid ≤ i := by omega
          have ej : en ≤ j := by omega
          rw [sgm_nil ei, sgm_nil ej, mrg_nil_left, List.append_nil] at h7
          refine wexit ?_
          show AWp _ _ _ _ _
          refine wreg fun K hK => ?_
          simp [C.spec_l2Gather]
          rw [wrapOk (x := 2 * (size : Int)) (by omega) (by omega), wrapOk (x := (at_ : Int) + 2 * size) (by omega) (by omega)]
          refine hK _ ?_; clear hK K
          have hA : (sgm out at_ mid).Pairwise fun a b => kle a b = true := sgm_runs (k := 2 * k) hruns (by rw [hk]; rw [Nat.mul_comm 2 size, Nat.mul_assoc]) (by rw [hmid, hol])
          have hB : (sgm out mid en).Pairwise fun a b => kle a b = true := by
            rcases Nat.le_total (at_ + size) l.length with hq | hq
            · have e1 : mid = at_ + size := by omega
              exact sgm_runs (k := 2 * k + 1) hruns (by rw [e1, hk, Nat.mul_succ, Nat.mul_comm 2 size, Nat.mul_assoc]) (by rw [hol, hen, e1]; congr 1; omega)
            · rw [sgm_nil (by omega)]
              exact List.Pairwise.nil
          have hM := mrg_sorted hA hB
          have hMp := mrg_perm (sgm out at_ mid) (sgm out mid en)
          rw [← h7] at hM hMp
          have hMl : M.length = en - at_ := by
            have := hMp.length_eq
            have e2 := congrArg List.length (sgm_take (out := out) (a := at_) (b := mid) (c := en) (by omega) (by omega))
            simp only [List.length_append, List.length_take] at this e2
            omega
          simp [C.spec_l2Gather]
          rw [show (at_ : Int) + 2 * size = ((at_ + 2 * size : Nat) : Int) by omega]
          refine hR2 (at_ + 2 * size, nx, mm) ⟨⟨k + 1, by dsimp only; rw [hk, Nat.mul_succ]⟩, h4, ?_, ?_, ?_, by dsimp only; omega⟩ (by dsimp only; omega)
          · dsimp only
            rw [h6, List.length_append, hMl]
            omega
          · dsimp only
            rw [h6]
            have e3 : out.take (at_ + 2 * size) = out.take en := by
              rw [hen]
              rcases Nat.le_total (at_ + 2 * size) l.length with hq | hq
              · rw [Nat.min_eq_left hq]
              · rw [Nat.min_eq_right hq, List.take_of_length_le (by omega), List.take_of_length_le (by omega)]
            rw [e3, ← sgm_take (out := out) (a := at_) (b := mid) (c := en) (by omega) (by omega)]
            exact hnp.append hMp
          · dsimp only
            rw [h6]
            exact runs_snoc hnr (by rw [hnl2, hk]) hM (by omega)
      clear hK
      by_cases ha : i < mid
      · simp [C.spec_l2Gather, ha]
        refine cast (congrArg K ?_) hJ
        simp [ha]
      · simp [C.spec_l2Gather, ha]
        refine cast (congrArg K ?_) hJ
        simp [ha]
    · have hat : l.length ≤ at_ := by have := d_f hc2; omega
      have hml : m = l.length := by omega
      refine wexit ?_
      show AWp _ _ _ _ _
      refine wreg fun K hK => ?_
      simp [C.spec_l2Gather]
      refine hK _ ?_; clear hK K
      show AWp _ _ _ _ _
      refine wreg fun K hK => ?_
      simp [C.spec_l2Gather]
      rw [wrapOk (x := (size : Int) * 2) (by omega) (by omega)]
      refine hK _ ?_; clear hK K
      simp [C.spec_l2Gather]
      rw [show (size : Int) * 2 = ((2 * size : Nat) : Int) by omega, hml]
      refine hR1 (2 * size, next) ⟨?_, hnr, by dsimp only; omega, by dsimp only; omega⟩ (by dsimp only; omega)
      dsimp only
      rw [List.take_of_length_le (by omega)] at hnp
      exact hnp.trans hperm
  · have hlt : l.length ≤ size := by have := d_f hc1; omega
    have hsort := runs_all hruns (by omega)
    have hnf := combR_nf hperm hsort
    have habs := absL_perm hperm
    refine wexit ?_
    show AWp _ _ _ _ _
    refine wseq ?_
    refine wreg fun K hK => ?_
    simp [C.spec_l2Gather]
    refine hK _ ?_; clear hK K
    show AWp _ _ _ _ _
    refine wseq ?_
    refine wseq ?_
    refine wreg fun K hK => ?_
    simp [C.spec_l2Gather]
    refine hK _ ?_; clear hK K
    show AWp _ _ _ _ _
    refine wblock ?_
    refine wloop (fun x : Nat × List (Int × Int) × Nat × Nat => ⟨ofL [(3, .al (3, 0) [] 0 l.length), (11, .al (11, 0) [] 0 x.2.2.1), (12, .int x.1)], ofRO [((3, 0), some (.ow 2 l.length (rows gM out))), ((11, 0), some (.ow 2 x.2.2.2 (rows gM x.2.1)))]⟩) (fun x => x.1 ≤ l.length ∧ x.2.1.length = x.2.2.2 ∧ x.2.2.1 ≤ x.2.2.2 ∧ x.2.2.1 ≤ x.1 ∧ combR (x.2.1.take x.2.2.1) (out.drop x.1) = nf ilt l ∧ absL (x.2.1.take x.2.2.1) ≤ absL (out.take x.1)) (fun x => l.length - x.1) (0, [], 0, 0) (by simp [C.spec_l2Gather, rows]) ⟨by simp, by simp, by simp, by simp, by simpa using hnf, by simp⟩ ?_
    intro x4 hx4 R4 hR4
    obtain ⟨k, G, m, N⟩ := x4
    obtain ⟨g1, g2, g3, g4, g5, g6⟩ := hx4
    dsimp only at g1 g2 g3 g4 g5 g6 ⊢
    refine wseq ?_
    refine wseq ?_
    refine wreg fun K hK => ?_
    simp [C.spec_l2Gather]
    refine hK _ ?_; clear hK K
    show AWp _ _ _ _ _
    refine wcond _ rfl (fun hc5 => ?_) (fun hc5 => ?_)
    · have hk : k < l.length := by have := d_t hc5; omega
      have hko : k < out.length := by omega
      have hokb : (out.take k) ++ [out[k]] = out.take (k + 1) := (List.take_succ_eq_append_getElem hko).symm
      have hab1 : absL (out.take (k + 1)) = absL (out.take k) + out[k].2.natAbs := by rw [← hokb, absL_append]; simp [absL]
      have hab2 : absL (out.take (k + 1)) ≤ absL l := by
        rw [← habs]
        conv => rhs; rw [← List.take_append_drop (k + 1) out, absL_append]
        omega
      refine wskip ?_
      show AWp _ _ _ _ _
      refine wseq ?_
      refine wblock ?_
      refine wseq ?_
      refine wseq ?_
      refine wdrawI [(true, 0), (true, 1), (true, 2), (true, 3), (true, 4), (true, 5), (true, 6), (true, 7), (true, 8), (true, 9), (true, 10), (true, 11), (true, 12), (true, 13), (true, 14), (true, 15), (true, 16), (true, 17)] ⟨by kernel_rfl, by kernel_rfl⟩ ([0, 1, 2, 3, 4, 5, 6, 7, 8, 9, 10, 11, 12, 13, 14, 15, 16, 17]) rfl fun K hK => ?_
      have hJ : K ⟨ofL [(3, .al (3, 0) [] 0 l.length), (11, .al (11, 0) [] 0 m), (12, .int k), (120, .bool (decide (0 < m ∧ (G.getD (m - 1) (0, 0)).1 = (out.getD k (0, 0)).1)))], ofRO [((3, 0), some (.ow 2 l.length (rows gM out))), ((11, 0), some (.ow 2 N (rows gM G)))]⟩ := by
        refine hK _ ?_; clear hK K
        show AWp _ _ _ _ _
        refine wcondJ (fun σ' => ∃ G' m' N', (G'.length = N' ∧ m' ≤ N' ∧ 0 < m' ∧ m' ≤ k + 1 ∧ G'.take m' = addLast (G.take m) out[k]) ∧ σ' = ⟨ofL [(3, .al (3, 0) [] 0 l.length), (11, .al (11, 0) [] 0 m'), (12, .int k)], ofRO [((3, 0), some (.ow 2 l.length (rows gM out))), ((11, 0), some (.ow 2 N' (rows gM G')))]⟩) _ rfl ?_ (fun hc6 Qc6 hQc6 => ?_) (fun hc6 Qc6 hQc6 => ?_)
        · rintro σc6 ⟨G', m', N', ⟨f1, f2, f3, f4, f5⟩, rfl⟩
          have habG : absL (G'.take m') ≤ absL (out.take (k + 1)) := by
            have := absL_addLast (G.take m) out[k]
            rw [f5, hab1]
            omega
          obtain ⟨q, rfl⟩ : ∃ q, m' = q + 1 := ⟨m' - 1, by omega⟩
          have hq : q < G'.length := by omega
          have hqN : q < N' := by omega
          show AWp _ _ _ _ _
          refine wseq ?_
          refine wdrawI [(true, 0), (true, 1), (true, 2), (true, 3), (true, 4), (true, 5), (true, 6), (true, 7), (true, 8), (true, 9), (true, 10), (true, 11), (true, 12), (true, 13), (true, 14), (true, 15), (true, 16), (true, 17), (true, 18)] ⟨by kernel_rfl, by kernel_rfl⟩ ([0, 1, 2, 3, 4, 5, 6, 7, 8, 9, 10, 11, 12, 13, 14, 15, 16, 17, 18]) rfl fun K hK => ?_
          have hJ : K ⟨ofL [(3, .al (3, 0) [] 0 l.length), (11, .al (11, 0) [] 0 (q + 1)), (12, .int k), (165, .bool (decide (k + 1 = l.length ∨ (out.getD (k + 1) (0, 0)).1 ≠ (out.getD k (0, 0)).1)))], ofRO [((3, 0), some (.ow 2 l.length (rows gM out))), ((11, 0), some (.ow 2 N' (rows gM G')))]⟩ := by
            refine hK _ ?_; clear hK K
            show AWp _ _ _ _ _
            refine wcondJ (fun σ' => ∃ m' t f, (m' ≤ q + 1 ∧ G'.take m' = if (out.drop (k + 1)).head?.map (·.1) = some out[k].1 then G'.take (q + 1) else cutLast (G'.take (q + 1))) ∧ σ' = ⟨ofL [(3, .al (3, 0) [] 0 l.length), (11, .al (11, 0) [] 0 m'), (12, .int k), (t, f)], ofRO [((3, 0), some (.ow 2 l.length (rows gM out))), ((11, 0), some (.ow 2 N' (rows gM G')))]⟩) _ rfl ?_ (fun hc7 Qc7 hQc7 => ?_) (fun hc7 Qc7 hQc7 => ?_)
            · rintro σc7 ⟨m', tt, ff, ⟨e1, e2⟩, rfl⟩
              show AWp _ _ _ _ _
              refine wreg fun K hK => ?_
              simp [C.spec_l2Gather, wrap_succ (show k < 4611686018427387904 by omega)]
              refine hK _ ?_; clear hK K
              simp [C.spec_l2Gather]
              refine hR4 (k + 1, G', m', N') ⟨hk, f1, by dsimp only; omega, by dsimp only; omega, ?_, ?_⟩ (by dsimp only; omega)
              · dsimp only
                rw [e2, f5, ← g5, List.drop_eq_getElem_cons hko]
                rfl
              · dsimp only
                rw [e2]
                split
                · exact habG
                · exact Nat.le_trans (absL_cutLast _) habG
            · have hcc := d_t hc7
              have hnx : ¬ ((out.drop (k + 1)).head?.map (·.1) = some out[k].1) := by rw [head_next hko]; rw [hol]; exact fun h => h hcc
              refine wseq ?_
              refine wreg fun K hK => ?_
              simp [C.spec_l2Gather, show ((q : Int) < q + 1) by omega, hqN, f1, gM_1 hq, wrap_nat (show q < 4611686018427387904 by omega)]
              refine hK _ ?_; clear hK K
              show AWp _ _ _ _ _
              refine wcond _ rfl (fun hc8 => ?_) (fun hc8 => ?_)
              · have hz : G'[q].2 = 0 := by simpa using hc8
                refine wreg fun K hK => ?_
                simp [C.spec_l2Gather, show ((q : Int) ≤ q + 1) by omega, hqN, wrap_nat (show q < 4611686018427387904 by omega)]
                refine hK _ ?_; clear hK K
                first
                  | (rw [ofL_pad3]; exact hQc7 _ ⟨q, 0, .dead, ⟨by omega, by rw [if_neg hnx, cutLast_at hq, if_pos hz]⟩, rfl⟩)
                  | exact hQc7 _ ⟨q + 1, _, _, ⟨by omega, by rw [if_neg hnx, cutLast_at hq, if_neg hz]⟩, rfl⟩
              · have hz : ¬ G'[q].2 = 0 := by simpa using hc8
                refine wskip ?_
                first
                  | (rw [ofL_pad3]; exact hQc7 _ ⟨q, 0, .dead, ⟨by omega, by rw [if_neg hnx, cutLast_at hq, if_pos hz]⟩, rfl⟩)
                  | exact hQc7 _ ⟨q + 1, _, _, ⟨by omega, by rw [if_neg hnx, cutLast_at hq, if_neg hz]⟩, rfl⟩
            · have hcc := d_f hc7
              have hnx : (out.drop (k + 1)).head?.map (·.1) = some out[k].1 := by rw [head_next hko]; rw [hol]; exact hcc
              refine wskip ?_
              exact hQc7 _ ⟨q + 1, _, _, ⟨Nat.le_refl _, by rw [if_pos hnx]⟩, rfl⟩
          clear hK
          by_cases ha : k + 1 = l.length
          · refine opsI_end fun L hL => ?_
            simp [C.spec_l2Gather, wrap_succ (show k < 4611686018427387904 by omega), wrap_nat (show l.length < 4611686018427387904 by omega), show ((k : Int) + 1 = l.length) by omega, ha]
            refine hL _ ?_; clear hL L
            simp [C.spec_l2Gather, wrap_succ (show k < 4611686018427387904 by omega), wrap_nat (show l.length < 4611686018427387904 by omega), show ((k : Int) + 1 = l.length) by omega, ha]
            refine cast (congrArg K ?_) hJ
            simp [ha, ha]
          · have hk1 : k + 1 < l.length := by omega
            have hko1 : k + 1 < out.length := by omega
            refine opsI_end fun L hL => ?_
            simp [C.spec_l2Gather, wrap_succ (show k < 4611686018427387904 by omega), wrap_nat (show l.length < 4611686018427387904 by omega), show ¬ ((k : Int) + 1 = l.length) by omega, show (0 ≤ (k : Int) + 1) by omega, show ((k : Int) + 1 < l.length) by omega, show ((k : Int) + 1).toNat = k + 1 by omega, hk1, hk, gM_0 hko1, gM_0 hko, ha]
            refine hL _ ?_; clear hL L
            simp [C.spec_l2Gather, wrap_succ (show k < 4611686018427387904 by omega), wrap_nat (show l.length < 4611686018427387904 by omega), show ¬ ((k : Int) + 1 = l.length) by omega, show (0 ≤ (k : Int) + 1) by omega, show ((k : Int) + 1 < l.length) by omega, show ((k : Int) + 1).toNat = k + 1 by omega, hk1, hk, gM_0 hko1, gM_0 hko, ha]
            refine cast (congrArg K ?_) hJ
            simp [List.getD_eq_getElem?_getD, hko1, hko, ibne, show ¬ (k + 1 = l.length) by omega, ha]
        · have hcc := d_t hc6
          obtain ⟨q, rfl⟩ : ∃ q, m = q + 1 := ⟨m - 1, by omega⟩
          have hq : q < G.length := by omega
          have hqN : q < N := by omega
          have hek : G[q].1 = out[k].1 := by
            have := hcc.2
            rw [show q + 1 - 1 = q by omega, getD_at hq, getD_at hko] at this
            exact this
          have hGq := absL_mem (l := G.take (q + 1)) (x := G[q]) (by rw [List.take_succ_eq_append_getElem hq]; exact List.mem_append_right _ (List.mem_singleton.2 rfl))
          refine wdrawI [(true, 0), (true, 1), (true, 2), (true, 3), (true, 4), (true, 5), (true, 6), (true, 7), (true, 8), (true, 9), (true, 10), (true, 11), (true, 12), (true, 13), (true, 14), (true, 15), (true, 16), (true, 17), (true, 18), (false, 19)] ⟨by kernel_rfl, by kernel_rfl⟩ ([0, 1, 2, 3, 4, 5, 6, 7, 8, 9, 10, 11, 12, 13, 14, 15, 16, 17, 18, 19]) rfl fun K hK => ?_
          refine opsI_end fun L hL => ?_
          simp [C.spec_l2Gather, show ((q : Int) < q + 1) by omega, hqN, g2, hk, gM_1 hq, gM_1 hko, gM_set1 hq, wrap_nat (show q < 4611686018427387904 by omega), wrapOk (x := G[q].2 + out[k].2) (by omega) (by omega)]
          refine hL _ ?_; clear hL L
          simp [C.spec_l2Gather, show ((q : Int) < q + 1) by omega, hqN, g2, hk, gM_1 hq, gM_1 hko, gM_set1 hq, wrap_nat (show q < 4611686018427387904 by omega), wrapOk (x := G[q].2 + out[k].2) (by omega) (by omega)]
          refine hK _ ?_; clear hK K
          refine hQc6 _ ⟨_, q + 1, N, ⟨?_, g3, by omega, by omega, ?_⟩, rfl⟩
          · simpa using g2
          · exact (addLast_same hq hek).symm
        · have hcc := d_f hc6
          have hnew := addLast_new (l := G) (m := m) (x := out[k]) (by omega) (by rw [getD_at hko] at hcc; exact hcc)
          refine wreg fun K hK => ?_
          simp [C.spec_l2Gather, hk, gM_0 hko, gM_1 hko, tkM g2 g3, gM_snoc, pair_eta, show (m + 1) * 16 ≤ 140737488355328 by omega]
          refine hK _ ?_; clear hK K
          refine hQc6 _ ⟨_, m + 1, m + 1, ⟨?_, Nat.le_refl _, by omega, by omega, ?_⟩, rfl⟩
          · simp
            omega
          · rw [hnew, List.take_of_length_le (by simp; omega)]
      clear hK
      by_cases ha : 0 < m
      · obtain ⟨q, rfl⟩ : ∃ q, m = q + 1 := ⟨m - 1, by omega⟩
        have hq : q < G.length := by omega
        have hqN : q < N := by omega
        refine opsI_end fun L hL => ?_
        simp [C.spec_l2Gather, show ((q : Int) < q + 1) by omega, hk, hqN, g2, gM_0 hq, gM_0 hko, wrap_nat (show q < 4611686018427387904 by omega), ha]
        refine hL _ ?_; clear hL L
        simp [C.spec_l2Gather, show ((q : Int) < q + 1) by omega, hk, hqN, g2, gM_0 hq, gM_0 hko, wrap_nat (show q < 4611686018427387904 by omega), ha]
        refine cast (congrArg K ?_) hJ
        simp [List.getD_eq_getElem?_getD, hq, hko, ibeq, ha]
      · refine opsI_end fun L hL => ?_
        simp [C.spec_l2Gather, ha]
        refine hL _ ?_; clear hL L
        simp [C.spec_l2Gather, ha]
        refine cast (congrArg K ?_) hJ
        simp [ha]
    · have hk : k = l.length := by have := d_f hc5; omega
      have hfin : G.take m = nf ilt l := by
        rw [← g5, hk, ← hol, List.drop_length]
        rfl
      have hml : m = (nf ilt l).length := by rw [← hfin, List.length_take]; omega
      refine wexit ?_
      show AWp _ _ _ _ _
      refine wseq ?_
      refine wreg fun K hK => ?_
      simp [C.spec_l2Gather]
      refine hK _ ?_; clear hK K
      show AWp _ _ _ _ _
      refine wret ?_
      simp [C.spec_l2Gather, tkM g2 g3, hfin]
      exact hml

end Go.Proofs.Ytocknokodgnlbaa.Ab
namespace Go.Proofs.Ytocknokodgnlbaa.Ab
open Go
set_option linter.unusedSimpArgs false
set_option linter.unusedVariables false
set_option maxRecDepth 10000
set_option maxHeartbeats 2000000
theorem mul_bd {x y : Int} (hx : -1000000 ≤ x ∧ x ≤ 1000000) (hy : -1000000 ≤ y ∧ y ≤ 1000000) : -1000000000000 ≤ x * y ∧ x * y ≤ 1000000000000 := by
  have h1 : (x * y).natAbs ≤ 1000000 * 1000000 := by
    rw [Int.natAbs_mul]
    exact Nat.mul_le_mul (by omega) (by omega)
  omega
end Go.Proofs.Ytocknokodgnlbaa.Ab
namespace Go.Proofs.Ytocknokodgnlbaa.Ab
open Go
set_option linter.unusedSimpArgs false
set_option linter.unusedVariables false
set_option maxRecDepth 10000
set_option maxHeartbeats 2000000
theorem insK_len {K : Type} [DecidableEq K] {lt : K → K → Bool} (k : K) (c : Int) : ∀ l : List (K × Int), (insK lt k c l).length ≤ l.length + 1
  | [] => by simp only [insK]; split <;> simp
  | x :: l => by
    simp only [insK]
    split
    · split <;> simp
      omega
    · split
      · split <;> simp
      · simp only [List.length_cons]
        have := insK_len (lt := lt) k c l
        omega
theorem nf_len {K : Type} [DecidableEq K] {lt : K → K → Bool} : ∀ l : List (K × Int), (nf lt l).length ≤ l.length
  | [] => by simp [nf]
  | x :: l => by
    simp only [nf, List.length_cons]
    have := insK_len (lt := lt) x.1 x.2 (nf lt l)
    have := nf_len (lt := lt) l
    omega
theorem right_dig {f : Lau} (h : Right f) {n : Nat} (hn : f.v = n) : ∀ t ∈ f.ts, t.e.length = n ∧ Dig t.e ∧ (∀ x ∈ t.e, -20 ≤ x ∧ x ≤ 20) ∧ (-1000000 ≤ t.c ∧ t.c ≤ 1000000) := fun t ht => by
  obtain ⟨h1, _, h2, h3⟩ := h.2.2.1 t ht
  exact ⟨by omega, fun x hx => by have := h3 x hx; omega, h3, h2⟩
theorem addE_mem {a b : List Int} (hl : a.length = b.length) {p q : Int} (ha : ∀ x ∈ a, -p ≤ x ∧ x ≤ p) (hb : ∀ x ∈ b, -q ≤ x ∧ x ≤ q) : ∀ x ∈ addE 1 a b, -(p + q) ≤ x ∧ x ≤ p + q := by
  induction a generalizing b with
  | nil => cases b with
    | nil => intro x hx; simp [addE] at hx
    | cons y b => simp at hl
  | cons u a ih => cases b with
    | nil => simp at hl
    | cons v b =>
      intro x hx
      simp only [addE, List.mem_cons] at hx
      rcases hx with rfl | hx
      · have := ha u (by simp)
        have := hb v (by simp)
        omega
      · exact ih (by simpa using hl) (fun x hx => ha x (by simp [hx])) (fun x hx => hb x (by simp [hx])) x hx
theorem prodL_mem {a b : List (List Int × Int)} {z : List Int × Int} (h : z ∈ prodL a b) : ∃ x ∈ a, ∃ y ∈ b, z = (addE 1 x.1 y.1, x.2 * y.2) := by
  unfold prodL at h
  obtain ⟨x, hx, h⟩ := List.mem_flatMap.1 h
  obtain ⟨y, hy, rfl⟩ := List.mem_map.1 h
  exact ⟨x, hx, y, hy, rfl⟩
theorem kt_tm : kt ∘ tm = kc := rfl
theorem prodL_len (a b : List (List Int × Int)) : (prodL a b).length = a.length * b.length := by
  unfold prodL
  induction a with
  | nil => simp
  | cons x a ih => simp [List.flatMap_cons, ih, Nat.add_mul]; omega
def oneF (n : Nat) : Lau := ⟨n, [⟨List.replicate n 0, 1⟩]⟩
theorem oneF_right {n : Nat} (h : 1 ≤ n ∧ n ≤ 8) : Right (oneF n) := by
  refine ⟨by simp only [oneF]; omega, by simp [oneF], fun t ht => ?_, List.pairwise_singleton _ _⟩
  simp only [oneF, List.mem_singleton] at ht
  subst ht
  exact ⟨by simp [oneF], by simp, by simp, fun x hx => by have := List.eq_of_mem_replicate hx; omega⟩
noncomputable def powL (f : Lau) : Nat → Option Lau
  | 0 => some (oneF f.v.toNat)
  | n + 1 => match powL f n with
    | some g => if (mulF g f).2 = true then some (mulF g f).1 else none
    | none => none
noncomputable def powF (f : Lau) (n : Int) : Lau × Bool := if Right f ∧ 0 ≤ n ∧ n ≤ 8 then (match powL f n.toNat with | some g => (g, true) | none => (zeroF, false)) else (zeroF, false)
theorem powL_right {f : Lau} (hf : Right f) : ∀ (n : Nat) (g : Lau), powL f n = some g → Right g
  | 0, g, h => by
    simp only [powL, Option.some.injEq] at h
    subst h
    exact oneF_right (by have := hf.1; omega)
  | n + 1, g, h => by
    simp only [powL] at h
    split at h
    · split at h
      · rename_i g' hg' hb
        injection h with h
        subst h
        rcases mulF_right g' f with q | q
        · exact q
        · rw [q] at hb; simp at hb
      · simp at h
    · simp at h
theorem powL_none {f : Lau} {n m : Nat} (h : powL f n = none) (hm : n ≤ m) : powL f m = none := by
  induction m with
  | zero =>
    have : n = 0 := by omega
    subst this
    exact h
  | succ m ih =>
    rcases Nat.lt_or_ge m n with q | q
    · have : n = m + 1 := by omega
      subst this
      exact h
    · simp only [powL, ih q]

end Go.Proofs.Ytocknokodgnlbaa.Ab
namespace Go.Proofs.Ytocknokodgnlbaa.Ab
open Go
set_option linter.unusedSimpArgs false
set_option linter.unusedVariables false
set_option maxRecDepth 10000
set_option maxHeartbeats 2000000
theorem right_small {f : Lau} (h : Right f) : f.ts.length < 4611686018427387904 ∧ ∀ t ∈ f.ts, t.e.length < 4611686018427387904 :=
  ⟨by have := h.2.1; omega, fun t ht => by have := (h.2.2.1 t ht).1; have := h.1; omega⟩
end Go.Proofs.Ytocknokodgnlbaa.Ab
namespace Go.Proofs.Ytocknokodgnlbaa.Ab
open Go
set_option linter.unusedSimpArgs false
set_option linter.unusedVariables false
set_option maxRecDepth 10000
set_option maxHeartbeats 2000000
def cmpI (a b : Int) : Int := if a < b then -1 else if b < a then 1 else 0
def cmpL : List Int → List Int → Int
  | [], [] => 0
  | [], _ :: _ => -1
  | _ :: _, [] => 1
  | a :: x, b :: y => if a = b then cmpL x y else if a < b then -1 else 1
theorem cmpL_neg : ∀ (a b : List Int), decide (cmpL a b < 0) = lexlt a b
  | [], [] => rfl
  | [], _ :: _ => rfl
  | _ :: _, [] => rfl
  | a :: x, b :: y => by
    have ih := cmpL_neg x y
    by_cases h : a = b
    · have e : cmpL (a :: x) (b :: y) = cmpL x y := by simp [cmpL, h]
      rw [e, ih]
      simp [lexlt, h]
    · by_cases h2 : a < b
      · have e : cmpL (a :: x) (b :: y) = -1 := by simp [cmpL, h, h2]
        rw [e]
        simp [lexlt, h, h2]
      · have e : cmpL (a :: x) (b :: y) = 1 := by simp [cmpL, h, h2]
        rw [e]
        simp [lexlt, h, h2]
theorem cmpL_pos : ∀ (a b : List Int), decide (cmpL a b ≤ 0) = !lexlt b a
  | [], [] => rfl
  | [], _ :: _ => rfl
  | _ :: _, [] => rfl
  | a :: x, b :: y => by
    have ih := cmpL_pos x y
    by_cases h : a = b
    · have e : cmpL (a :: x) (b :: y) = cmpL x y := by simp [cmpL, h]
      rw [e, ih]
      simp [lexlt, h]
    · by_cases h2 : a < b
      · have e : cmpL (a :: x) (b :: y) = -1 := by simp [cmpL, h, h2]
        rw [e]
        simp [lexlt, Ne.symm h]
        omega
      · have e : cmpL (a :: x) (b :: y) = 1 := by simp [cmpL, h, h2]
        rw [e]
        simp [lexlt, Ne.symm h]
        omega

def okE (e : List Int) (v : Int) : Bool := decide ((e.length : Int) = v) && !e.any (fun x => !decide (-20 ≤ x ∧ x ≤ 20))
theorem okE_iff {e : List Int} {v : Int} : okE e v = true ↔ (e.length : Int) = v ∧ ∀ x ∈ e, -20 ≤ x ∧ x ≤ 20 := by
  unfold okE
  simp only [Bool.and_eq_true, decide_eq_true_eq, Bool.not_eq_true', List.any_eq_false, Bool.not_eq_true']
  refine ⟨fun ⟨h1, h2⟩ => ⟨h1, fun x hx => ?_⟩, fun ⟨h1, h2⟩ => ⟨h1, fun x hx => ?_⟩⟩
  · have := h2 x hx
    simpa using this
  · have := h2 x hx
    simpa using this
theorem cmp_isNaN_int_calls (a : Int) : ACalls Try.prog F.cmp_isNaN_int [.int a] [] true (fun outs res => outs = [] ∧ res = [.one (D.bool false)]) := by
  refine ACalls.of_body (C := C.cmp_isNaN_int) (n := Try.f152.ntmps) tabT folT Try.func152 rfl (by kernel_rfl) rfl (Nat.le_of_ble_eq_true rfl) (by decide) (by kernel_rfl) (by kernel_rfl) rfl (by simp) (by simp) ?_
  simp only [Try.f152]
  refine wseq ?_
  refine wreg fun K hK => ?_
  simp [C.cmp_isNaN_int]
  refine hK _ ?_; clear hK K
  show AWp _ _ _ _ _
  refine wseq ?_
  refine wreg fun K hK => ?_
  simp [C.cmp_isNaN_int]
  refine hK _ ?_; clear hK K
  show AWp _ _ _ _ _
  refine wret ?_
  simp [C.cmp_isNaN_int]

theorem cmp_Compare_int_calls (a b : Int) : ACalls Try.prog F.cmp_Compare_int [.int a, .int b] [] true (fun outs res => outs = [] ∧ res = [.one (D.int (cmpI a b))]) := by
  refine ACalls.of_body (C := C.cmp_Compare_int) (n := Try.f119.ntmps) tabT folT Try.func119 rfl (by kernel_rfl) rfl (Nat.le_of_ble_eq_true rfl) (by decide) (by kernel_rfl) (by kernel_rfl) rfl (by simp) (by simp) ?_
  simp only [Try.f119]
  refine wseq ?_
  refine wreg fun K hK => ?_
  simp [C.cmp_Compare_int]
  refine hK _ ?_; clear hK K
  show AWp _ _ _ _ _
  refine wseq ?_
  refine wregI ([0, 1] ++ ([2])) rfl fun K hK => ?_
  refine opsI_seg fun L hL => ?_
  simp [C.cmp_Compare_int]
  refine wcall1 (cmp_isNaN_int_calls a) (by simp) (by simp) ?_
  simp [C.cmp_Compare_int]
  refine hL _ ?_; clear hL L
  refine opsI_end fun L hL => ?_
  simp [C.cmp_Compare_int]
  refine hL _ ?_; clear hL L
  simp [C.cmp_Compare_int]
  refine hK _ ?_; clear hK K
  show AWp _ _ _ _ _
  refine wseq ?_
  refine wregI ([0, 1] ++ ([2])) rfl fun K hK => ?_
  refine opsI_seg fun L hL => ?_
  simp [C.cmp_Compare_int]
  refine wcall1 (cmp_isNaN_int_calls b) (by simp) (by simp) ?_
  simp [C.cmp_Compare_int]
  refine hL _ ?_; clear hL L
  refine opsI_end fun L hL => ?_
  simp [C.cmp_Compare_int]
  refine hL _ ?_; clear hL L
  simp [C.cmp_Compare_int]
  refine hK _ ?_; clear hK K
  show AWp _ _ _ _ _
  refine wseq ?_
  refine wseq ?_
  refine wreg fun K hK => ?_
  simp [C.cmp_Compare_int]
  refine hK _ ?_; clear hK K
  show AWp _ _ _ _ _
  refine wcond _ rfl (fun hc1 => ?_) (fun hc1 => ?_)
  · simp at hc1
  · refine wskip ?_
    show AWp _ _ _ _ _
    refine wseq ?_
    refine wseq ?_
    refine wreg fun K hK => ?_
    simp [C.cmp_Compare_int]
    refine hK _ ?_; clear hK K
    show AWp _ _ _ _ _
    refine wcond _ rfl (fun hc3 => ?_) (fun hc3 => ?_)
    · simp at hc3
    · refine wskip ?_
      show AWp _ _ _ _ _
      refine wseq ?_
      refine wseq ?_
      refine wreg fun K hK => ?_
      simp [C.cmp_Compare_int]
      refine hK _ ?_; clear hK K
      show AWp _ _ _ _ _
      refine wcond _ rfl (fun hc4 => ?_) (fun hc4 => ?_)
      · have h4 := d_t hc4
        refine wseq ?_
        refine wreg fun K hK => ?_
        simp [C.cmp_Compare_int]
        refine hK _ ?_; clear hK K
        show AWp _ _ _ _ _
        refine wret ?_
        simp [C.cmp_Compare_int, cmpI, h4]
      · have h4 := d_f hc4
        refine wskip ?_
        show AWp _ _ _ _ _
        refine wseq ?_
        refine wseq ?_
        refine wreg fun K hK => ?_
        simp [C.cmp_Compare_int]
        refine hK _ ?_; clear hK K
        show AWp _ _ _ _ _
        refine wcond _ rfl (fun hc5 => ?_) (fun hc5 => ?_)
        · have h5 : b < a := by simpa using hc5
          refine wseq ?_
          refine wreg fun K hK => ?_
          simp [C.cmp_Compare_int]
          refine hK _ ?_; clear hK K
          show AWp _ _ _ _ _
          refine wret ?_
          simp [C.cmp_Compare_int, cmpI, h4, h5]
        · have h5 : ¬ b < a := by simpa using hc5
          refine wskip ?_
          show AWp _ _ _ _ _
          refine wseq ?_
          refine wreg fun K hK => ?_
          simp [C.cmp_Compare_int]
          refine hK _ ?_; clear hK K
          show AWp _ _ _ _ _
          refine wret ?_
          simp [C.cmp_Compare_int, cmpI, h4, h5]

theorem slices_Compare_int_int_calls (a b : List Int) (ha : a.length < 4611686018427387904) : ACalls Try.prog F.slices_Compare_int_int [.d (shI a), .d (shI b)] [] true (fun outs res => outs = [] ∧ res = [.one (D.int (cmpL a b))]) := by
  refine ACalls.of_body (C := C.slices_Compare_int_int) (n := Try.f58.ntmps) tabT folT Try.func58 rfl (by kernel_rfl) rfl (Nat.le_of_ble_eq_true rfl) (by decide) (by kernel_rfl) (by kernel_rfl) rfl (by simp) (by simp) ?_
  simp only [Try.f58]
  refine wseq ?_
  refine wreg fun K hK => ?_
  simp [C.slices_Compare_int_int]
  refine hK _ ?_; clear hK K
  show AWp _ _ _ _ _
  refine wseq ?_
  refine wseq ?_
  refine wreg fun K hK => ?_
  simp [C.slices_Compare_int_int]
  refine hK _ ?_; clear hK K
  show AWp _ _ _ _ _
  refine wblock ?_
  refine wloop (fun k : Nat => ⟨ofL [(0, .d (shI a)), (1, .d (shI b)), (9, .d (shI a)), (10, .int a.length), (11, FV.int k)], ofRO []⟩) (fun k => k ≤ a.length ∧ k ≤ b.length ∧ cmpL a b = cmpL (a.drop k) (b.drop k)) (fun k => a.length - k) 0 (by simp [C.slices_Compare_int_int]) (by simp) ?_
  intro x1 hx1 R1 hR1
  obtain ⟨hk, hk2, ht⟩ := hx1
  refine wseq ?_
  refine wreg fun K hK => ?_
  simp [C.slices_Compare_int_int]
  refine hK _ ?_; clear hK K
  show AWp _ _ _ _ _
  refine wseq ?_
  refine wcond _ rfl (fun hc1 => ?_) (fun hc1 => ?_)
  · have h1 : x1 < a.length := by have := d_t hc1; omega
    refine wskip ?_
    show AWp _ _ _ _ _
    refine wseq ?_
    refine wblock ?_
    refine wseq ?_
    refine wreg fun K hK => ?_
    simp [C.slices_Compare_int_int, get_ints, h1]
    refine hK _ ?_; clear hK K
    show AWp _ _ _ _ _
    refine wseq ?_
    refine wseq ?_
    refine wreg fun K hK => ?_
    simp [C.slices_Compare_int_int]
    refine hK _ ?_; clear hK K
    show AWp _ _ _ _ _
    refine wcond _ rfl (fun hc2 => ?_) (fun hc2 => ?_)
    · have h2 : b.length ≤ x1 := by have := d_t hc2; omega
      refine wseq ?_
      refine wreg fun K hK => ?_
      simp [C.slices_Compare_int_int]
      refine hK _ ?_; clear hK K
      show AWp _ _ _ _ _
      refine wret ?_
      simp [C.slices_Compare_int_int]
      rw [ht, List.drop_eq_nil_of_le h2, List.drop_eq_getElem_cons h1]
      rfl
    · have h2 : x1 < b.length := by have := d_f hc2; omega
      refine wskip ?_
      show AWp _ _ _ _ _
      refine wseq ?_
      refine wreg fun K hK => ?_
      simp [C.slices_Compare_int_int, get_ints, h2]
      refine hK _ ?_; clear hK K
      show AWp _ _ _ _ _
      refine wseq ?_
      refine wregI ([0, 1, 2] ++ ([3])) rfl fun K hK => ?_
      refine opsI_seg fun L hL => ?_
      simp [C.slices_Compare_int_int]
      refine wcall1 (cmp_Compare_int_calls a[x1] b[x1]) (by simp) (by simp) ?_
      simp [C.slices_Compare_int_int]
      refine hL _ ?_; clear hL L
      refine opsI_end fun L hL => ?_
      simp [C.slices_Compare_int_int]
      refine hL _ ?_; clear hL L
      simp [C.slices_Compare_int_int]
      refine hK _ ?_; clear hK K
      show AWp _ _ _ _ _
      refine wseq ?_
      refine wreg fun K hK => ?_
      simp [C.slices_Compare_int_int]
      refine hK _ ?_; clear hK K
      show AWp _ _ _ _ _
      refine wcond _ rfl (fun hc3 => ?_) (fun hc3 => ?_)
      · have hne : ¬ cmpI a[x1] b[x1] = 0 := by simpa using hc3
        refine wseq ?_
        refine wreg fun K hK => ?_
        simp [C.slices_Compare_int_int]
        refine hK _ ?_; clear hK K
        show AWp _ _ _ _ _
        refine wret ?_
        simp [C.slices_Compare_int_int]
        rw [ht, List.drop_eq_getElem_cons h1, List.drop_eq_getElem_cons h2]
        rcases Int.lt_trichotomy a[x1] b[x1] with q | q | q
        · simp [cmpL, cmpI, q, Int.ne_of_lt q]
        · simp [cmpI, q] at hne
        · simp [cmpL, cmpI, q, Int.ne_of_gt q, Int.not_lt.2 (Int.le_of_lt q)]
      · have heq : cmpI a[x1] b[x1] = 0 := by simpa using hc3
        have hab : a[x1] = b[x1] := by
          unfold cmpI at heq
          split at heq
          · simp at heq
          · split at heq
            · simp at heq
            · omega
        refine wskip ?_
        show AWp _ _ _ _ _
        refine wreg fun K hK => ?_
        simp [C.slices_Compare_int_int, wrap_succ (show x1 < 4611686018427387904 by omega)]
        refine hK _ ?_; clear hK K
        simp [C.slices_Compare_int_int]
        refine hR1 (x1 + 1) ⟨h1, h2, ?_⟩ (by omega)
        rw [ht, List.drop_eq_getElem_cons h1, List.drop_eq_getElem_cons h2]
        simp [cmpL, hab]
  · have h1 : x1 = a.length := by have := d_f hc1; omega
    have hn : a.drop x1 = [] := List.drop_eq_nil_of_le (by omega)
    refine wexit ?_
    show AWp _ _ _ _ _
    refine wseq ?_
    refine wseq ?_
    refine wreg fun K hK => ?_
    simp [C.slices_Compare_int_int]
    refine hK _ ?_; clear hK K
    show AWp _ _ _ _ _
    refine wcond _ rfl (fun hc4 => ?_) (fun hc4 => ?_)
    · have h2 : a.length < b.length := by have := d_t hc4; omega
      refine wseq ?_
      refine wreg fun K hK => ?_
      simp [C.slices_Compare_int_int]
      refine hK _ ?_; clear hK K
      show AWp _ _ _ _ _
      refine wret ?_
      simp [C.slices_Compare_int_int]
      rw [ht, hn, List.drop_eq_getElem_cons (show x1 < b.length by omega)]
      rfl
    · have h2 : ¬ a.length < b.length := by have := d_f hc4; omega
      refine wskip ?_
      show AWp _ _ _ _ _
      refine wseq ?_
      refine wreg fun K hK => ?_
      simp [C.slices_Compare_int_int]
      refine hK _ ?_; clear hK K
      show AWp _ _ _ _ _
      refine wret ?_
      simp [C.slices_Compare_int_int]
      rw [ht, hn, List.drop_eq_nil_of_le (show b.length ≤ x1 by omega)]
      rfl

theorem slices_IndexFunc_int_int_calls (xs : List Int) (g : Nat) (p : Int → Bool) (hx : xs.length < 4611686018427387904) (hM : aget [] MM g = []) (hp : ∀ x ∈ xs, ACalls Try.prog g [.int x] [] true (fun outs res => outs = [] ∧ res = [.one (D.bool (p x))])) : ACalls Try.prog F.slices_IndexFunc_int_int [.d (shI xs), .d (.fn g [])] [] true (fun outs res => outs = [] ∧ ∃ r : Int, res = [.one (D.int r)] ∧ decide (0 ≤ r) = xs.any p) := by
  refine ACalls.of_body (C := C.slices_IndexFunc_int_int) (n := Try.f130.ntmps) tabT folT Try.func130 rfl (by kernel_rfl) rfl (Nat.le_of_ble_eq_true rfl) (by decide) (by kernel_rfl) (by kernel_rfl) rfl (by simp) (by simp) ?_
  simp only [Try.f130]
  refine wseq ?_
  refine wreg fun K hK => ?_
  simp [C.slices_IndexFunc_int_int]
  refine hK _ ?_; clear hK K
  show AWp _ _ _ _ _
  refine wseq ?_
  refine wseq ?_
  refine wreg fun K hK => ?_
  simp [C.slices_IndexFunc_int_int]
  refine hK _ ?_; clear hK K
  show AWp _ _ _ _ _
  refine wblock ?_
  refine wloop (fun k : Nat => ⟨ofL [(0, .d (shI xs)), (1, .d (.fn g [])), (7, .int xs.length), (8, FV.int k)], ofRO []⟩) (fun k => k ≤ xs.length ∧ (xs.take k).any p = false) (fun k => xs.length - k) 0 (by simp [C.slices_IndexFunc_int_int]) (by simp) ?_
  intro x1 hx1 R1 hR1
  obtain ⟨hk, ht⟩ := hx1
  refine wseq ?_
  refine wreg fun K hK => ?_
  simp [C.slices_IndexFunc_int_int]
  refine hK _ ?_; clear hK K
  show AWp _ _ _ _ _
  refine wseq ?_
  refine wcond _ rfl (fun hc1 => ?_) (fun hc1 => ?_)
  · have h1 : x1 < xs.length := by have := d_t hc1; omega
    refine wskip ?_
    show AWp _ _ _ _ _
    refine wseq ?_
    refine wblock ?_
    refine wseq ?_
    refine wreg fun K hK => ?_
    simp [C.slices_IndexFunc_int_int]
    refine hK _ ?_; clear hK K
    show AWp _ _ _ _ _
    refine wseq ?_
    refine wregI ([0, 1, 2, 3, 4, 5] ++ ([])) rfl fun K hK => ?_
    refine opsI_seg fun L hL => ?_
    simp [C.slices_IndexFunc_int_int, get_ints, h1, hM]
    refine wcall1 (hp xs[x1] (List.getElem_mem h1)) (by simp) (by simp) ?_
    simp [C.slices_IndexFunc_int_int, get_ints, h1, hM]
    refine hL _ ?_; clear hL L
    refine opsI_end fun L hL => ?_
    simp only [AOpsI]
    refine hL _ ?_; clear hL L
    simp [C.slices_IndexFunc_int_int, get_ints, h1, hM]
    refine hK _ ?_; clear hK K
    show AWp _ _ _ _ _
    refine wcond _ rfl (fun hc2 => ?_) (fun hc2 => ?_)
    · have hpx : p xs[x1] = true := by simpa using hc2
      refine wseq ?_
      refine wreg fun K hK => ?_
      simp [C.slices_IndexFunc_int_int]
      refine hK _ ?_; clear hK K
      show AWp _ _ _ _ _
      refine wret ?_
      simp [C.slices_IndexFunc_int_int]
      exact ⟨xs[x1], List.getElem_mem h1, hpx⟩
    · have hpx : p xs[x1] = false := by simpa using hc2
      refine wskip ?_
      show AWp _ _ _ _ _
      refine wreg fun K hK => ?_
      simp [C.slices_IndexFunc_int_int, wrap_succ (show x1 < 4611686018427387904 by omega)]
      refine hK _ ?_; clear hK K
      simp [C.slices_IndexFunc_int_int]
      refine hR1 (x1 + 1) ⟨h1, ?_⟩ (by omega)
      rw [List.take_succ_eq_append_getElem h1, List.any_append, ht]
      simp [hpx]
  · have h1 : x1 = xs.length := by have := d_f hc1; omega
    have ht2 : xs.any p = false := by rw [h1, List.take_length] at ht; exact ht
    refine wexit ?_
    show AWp _ _ _ _ _
    refine wseq ?_
    refine wreg fun K hK => ?_
    simp [C.slices_IndexFunc_int_int]
    refine hK _ ?_; clear hK K
    show AWp _ _ _ _ _
    refine wret ?_
    simp [C.slices_IndexFunc_int_int]
    intro x hx
    have := List.any_eq_false.1 ht2 x hx
    simpa using this

theorem slices_ContainsFunc_int_int_calls (xs : List Int) (g : Nat) (p : Int → Bool) (hx : xs.length < 4611686018427387904) (hM : aget [] MM g = []) (hp : ∀ x ∈ xs, ACalls Try.prog g [.int x] [] true (fun outs res => outs = [] ∧ res = [.one (D.bool (p x))])) : ACalls Try.prog F.slices_ContainsFunc_int_int [.d (shI xs), .d (.fn g [])] [] true (fun outs res => outs = [] ∧ res = [.one (D.bool (xs.any p))]) := by
  refine ACalls.of_body (C := C.slices_ContainsFunc_int_int) (n := Try.f67.ntmps) tabT folT Try.func67 rfl (by kernel_rfl) rfl (Nat.le_of_ble_eq_true rfl) (by decide) (by kernel_rfl) (by kernel_rfl) rfl (by simp) (by simp) ?_
  simp only [Try.f67]
  refine wseq ?_
  refine wreg fun K hK => ?_
  simp [C.slices_ContainsFunc_int_int]
  refine hK _ ?_; clear hK K
  show AWp _ _ _ _ _
  refine wseq ?_
  refine wregI ([0, 1, 2] ++ ([3, 4])) rfl fun K hK => ?_
  refine opsI_seg fun L hL => ?_
  simp [C.slices_ContainsFunc_int_int]
  refine wcall (slices_IndexFunc_int_int_calls xs g p hx hM hp) (by simp) (by simp) (by simp) ?_
  rintro outs res ⟨rfl, r, rfl, hr⟩
  simp [C.slices_ContainsFunc_int_int]
  refine hL _ ?_; clear hL L
  refine opsI_end fun L hL => ?_
  simp [C.slices_ContainsFunc_int_int]
  refine hL _ ?_; clear hL L
  simp [C.slices_ContainsFunc_int_int]
  refine hK _ ?_; clear hK K
  show AWp _ _ _ _ _
  refine wret ?_
  simp [C.slices_ContainsFunc_int_int]
  exact hr

theorem impl_expOk_1_calls (x : Int) : ACalls Try.prog F.impl_expOk_1 [.int x] [] true (fun outs res => outs = [] ∧ res = [.one (D.bool (!decide (-20 ≤ x ∧ x ≤ 20)))]) := by
  refine ACalls.of_body (C := C.impl_expOk_1) (n := Try.f120.ntmps) tabT folT Try.func120 rfl (by kernel_rfl) rfl (Nat.le_of_ble_eq_true rfl) (by decide) (by kernel_rfl) (by kernel_rfl) rfl (by simp) (by simp) ?_
  simp only [Try.f120]
  refine wseq ?_
  refine wreg fun K hK => ?_
  simp [C.impl_expOk_1]
  refine hK _ ?_; clear hK K
  show AWp _ _ _ _ _
  refine wseq ?_
  refine wregI ([0, 1] ++ ([2, 3])) rfl fun K hK => ?_
  refine opsI_seg fun L hL => ?_
  simp [C.impl_expOk_1]
  refine wcall1 (impl_within_calls x (-20) 20) (by simp) (by simp) ?_
  simp [C.impl_expOk_1]
  refine hL _ ?_; clear hL L
  refine opsI_end fun L hL => ?_
  simp [C.impl_expOk_1]
  refine hL _ ?_; clear hL L
  simp [C.impl_expOk_1]
  refine hK _ ?_; clear hK K
  show AWp _ _ _ _ _
  refine wret ?_
  simp [C.impl_expOk_1]

theorem impl_expOk_calls (e : List Int) (v : Int) (hx : e.length < 4611686018427387904) : ACalls Try.prog F.impl_expOk [.d (shI e), .int v] [] true (fun outs res => outs = [] ∧ res = [.one (D.bool (okE e v))]) := by
  refine ACalls.of_body (C := C.impl_expOk) (n := Try.f59.ntmps) tabT folT Try.func59 rfl (by kernel_rfl) rfl (Nat.le_of_ble_eq_true rfl) (by decide) (by kernel_rfl) (by kernel_rfl) rfl (by simp) (by simp) ?_
  simp only [Try.f59]
  refine wseq ?_
  refine wreg fun K hK => ?_
  simp [C.impl_expOk]
  refine hK _ ?_; clear hK K
  show AWp _ _ _ _ _
  refine wseq ?_
  refine wregI ([0, 1, 2, 3, 4, 5, 6] ++ ([7, 8, 9])) rfl fun K hK => ?_
  have hJ : K ⟨ofL [(4, .bool (okE e v))], ofRO []⟩ := by
    refine hK _ ?_; clear hK K
    show AWp _ _ _ _ _
    refine wret ?_
    simp [C.impl_expOk]
  clear hK
  by_cases ha : (e.length : Int) = v
  · refine opsI_seg fun L hL => ?_
    simp [C.impl_expOk, ha]
    refine wcall1 (slices_ContainsFunc_int_int_calls e _ (fun x => !decide (-20 ≤ x ∧ x ≤ 20)) hx rfl (fun x _ => impl_expOk_1_calls x)) (by simp) (by simp) ?_
    simp [C.impl_expOk, ha]
    refine hL _ ?_; clear hL L
    refine opsI_end fun L hL => ?_
    simp [C.impl_expOk, ha]
    refine hL _ ?_; clear hL L
    simp [C.impl_expOk, ha]
    refine cast (congrArg K ?_) hJ
    simp [okE, ha]
  · refine opsI_seg fun L hL => ?_
    simp [C.impl_expOk, ha]
    refine hL _ ?_; clear hL L
    refine opsI_end fun L hL => ?_
    simp [C.impl_expOk, ha]
    refine hL _ ?_; clear hL L
    simp [C.impl_expOk, ha]
    refine cast (congrArg K ?_) hJ
    simp [okE, ha]

theorem impl_coefOk_calls (c : Int) : ACalls Try.prog F.impl_coefOk [.int c] [] true (fun outs res => outs = [] ∧ res = [.one (D.bool (decide (c ≠ 0 ∧ -1000000 ≤ c ∧ c ≤ 1000000)))]) := by
  refine ACalls.of_body (C := C.impl_coefOk) (n := Try.f60.ntmps) tabT folT Try.func60 rfl (by kernel_rfl) rfl (Nat.le_of_ble_eq_true rfl) (by decide) (by kernel_rfl) (by kernel_rfl) rfl (by simp) (by simp) ?_
  simp only [Try.f60]
  refine wseq ?_
  refine wreg fun K hK => ?_
  simp [C.impl_coefOk]
  refine hK _ ?_; clear hK K
  show AWp _ _ _ _ _
  refine wseq ?_
  refine wregI ([0, 1, 2, 3, 4] ++ ([5, 6])) rfl fun K hK => ?_
  have hJ : K ⟨ofL [(2, .bool (decide (c ≠ 0 ∧ -1000000 ≤ c ∧ c ≤ 1000000)))], ofRO []⟩ := by
    refine hK _ ?_; clear hK K
    show AWp _ _ _ _ _
    refine wret ?_
    simp [C.impl_coefOk]
  clear hK
  by_cases ha : c = 0
  · refine opsI_seg fun L hL => ?_
    simp [C.impl_coefOk, ha]
    refine hL _ ?_; clear hL L
    refine opsI_end fun L hL => ?_
    simp [C.impl_coefOk, ha]
    refine hL _ ?_; clear hL L
    simp [C.impl_coefOk, ha]
    refine cast (congrArg K ?_) hJ
    simp [ha]
  · refine opsI_seg fun L hL => ?_
    simp [C.impl_coefOk, ha]
    refine wcall1 (impl_within_calls c (-1000000) 1000000) (by simp) (by simp) ?_
    simp [C.impl_coefOk, ha]
    refine hL _ ?_; clear hL L
    refine opsI_end fun L hL => ?_
    simp [C.impl_coefOk, ha]
    refine hL _ ?_; clear hL L
    simp [C.impl_coefOk, ha]
    refine cast (congrArg K ?_) hJ
    simp [ha]

theorem impl_LaurentOk_calls (f : Lau) (hx : f.ts.length < 4611686018427387904) (hxe : ∀ t ∈ f.ts, t.e.length < 4611686018427387904) : ACalls Try.prog F.impl_LaurentOk [aF f] [] true (fun outs res => outs = [] ∧ res = [.one (D.bool (decide (Right f)))]) := by
  refine ACalls.of_body (C := C.impl_LaurentOk) (n := Try.f66.ntmps) tabT folT Try.func66 rfl (by kernel_rfl) rfl (Nat.le_of_ble_eq_true rfl) (by decide) (by kernel_rfl) (by kernel_rfl) rfl (by simp) (by simp) ?_
  simp only [Try.f66]
  refine wseq ?_
  refine wreg fun K hK => ?_
  simp [C.impl_LaurentOk, fS, tS]
  refine hK _ ?_; clear hK K
  show AWp _ _ _ _ _
  refine wseq ?_
  refine wseq ?_
  refine wregI ([0, 1, 2] ++ ([3, 4, 5, 6, 7, 8, 9])) rfl fun K hK => ?_
  have hJ : K ⟨ofL [(1, .pt (1, 0) [] 0), (14, .bool (decide (¬ (1 ≤ f.v ∧ f.v ≤ 8) ∨ 600 < (f.ts.length : Int))))], ofRO [((1, 0), some (.bx (fS f)))]⟩ := by
    refine hK _ ?_; clear hK K
    show AWp _ _ _ _ _
    refine wcond _ rfl (fun hc1 => ?_) (fun hc1 => ?_)
    · have hh := d_t hc1
      refine wseq ?_
      refine wreg fun K hK => ?_
      simp [C.impl_LaurentOk, fS, tS]
      refine hK _ ?_; clear hK K
      show AWp _ _ _ _ _
      refine wret ?_
      simp [C.impl_LaurentOk, fS, tS]
      intro hr; have := hr.1; have := hr.2.1; omega
    · have hh0 := d_f hc1
      have hh : (1 ≤ f.v ∧ f.v ≤ 8) ∧ f.ts.length ≤ 600 := by omega
      refine wskip ?_
      show AWp _ _ _ _ _
      refine wseq ?_
      refine wseq ?_
      refine wreg fun K hK => ?_
      simp [C.impl_LaurentOk, fS, tS]
      refine hK _ ?_; clear hK K
      show AWp _ _ _ _ _
      refine wblock ?_
      refine wloop (fun k : Nat => ⟨ofL [(1, .pt (1, 0) [] 0), (16, .d (.sh 2 f.ts.length (rows tS f.ts))), (17, .int f.ts.length), (18, .int k)], ofRO [((1, 0), some (.bx (fS f)))]⟩) (fun k => k ≤ f.ts.length ∧ (∀ t ∈ f.ts.take k, Good f.v t) ∧ DescT (f.ts.take k)) (fun k => f.ts.length - k) 0 (by simp [C.impl_LaurentOk, fS]) (by simp [DescT]) ?_
      intro x1 hx1 R1 hR1
      obtain ⟨hk, hgood, hdesc⟩ := hx1
      refine wseq ?_
      refine wreg fun K hK => ?_
      simp [C.impl_LaurentOk, fS, tS]
      refine hK _ ?_; clear hK K
      show AWp _ _ _ _ _
      refine wseq ?_
      refine wcond _ rfl (fun hc2 => ?_) (fun hc2 => ?_)
      · have h1 : x1 < f.ts.length := by have := d_t hc2; omega
        refine wskip ?_
        show AWp _ _ _ _ _
        refine wseq ?_
        refine wblock ?_
        refine wseq ?_
        refine wreg fun K hK => ?_
        simp [C.impl_LaurentOk, fS, tS, h1, tS_0 h1, tS_1 h1]
        refine hK _ ?_; clear hK K
        show AWp _ _ _ _ _
        refine wseq ?_
        refine wdrawI [(true, 0), (true, 1), (true, 2), (true, 3), (false, 4), (true, 5), (true, 6), (true, 7), (true, 8), (false, 9), (true, 10), (true, 11), (true, 12), (true, 13), (true, 14), (true, 15), (true, 16), (true, 17), (true, 18), (true, 19), (true, 20), (true, 21), (true, 22), (true, 23), (true, 24), (false, 25), (true, 26), (true, 27), (true, 28)] ⟨by kernel_rfl, by kernel_rfl⟩ ([0, 1, 2, 3, 4] ++ ([5, 6, 7, 8, 9] ++ ([10, 11, 12, 13, 14, 15, 16, 17, 18, 19, 20, 21, 22, 23, 24, 25] ++ ([26, 27, 28])))) rfl fun K hK => ?_
        have hJ : K ⟨ofL [(1, .pt (1, 0) [] 0), (16, .d (.sh 2 f.ts.length (rows tS f.ts))), (17, .int f.ts.length), (18, .int x1), (51, .bool (!decide (okE f.ts[x1].e f.v = true ∧ (f.ts[x1].c ≠ 0 ∧ -1000000 ≤ f.ts[x1].c ∧ f.ts[x1].c ≤ 1000000) ∧ (x1 = 0 ∨ lexlt f.ts[x1].e f.ts[x1 - 1].e = true))))], ofRO [((1, 0), some (.bx (fS f)))]⟩ := by
          refine hK _ ?_; clear hK K
          show AWp _ _ _ _ _
          refine wcond _ rfl (fun hc3 => ?_) (fun hc3 => ?_)
          · have hb := nd_t hc3
            refine wseq ?_
            refine wreg fun K hK => ?_
            simp [C.impl_LaurentOk, fS, tS]
            refine hK _ ?_; clear hK K
            show AWp _ _ _ _ _
            refine wret ?_
            simp [C.impl_LaurentOk, fS, tS]
            intro hr
            have hg := hr.2.2.1 _ (List.getElem_mem h1)
            exact hb ⟨okE_iff.2 ⟨hg.1, hg.2.2.2⟩, ⟨hg.2.1, hg.2.2.1⟩, descT_next h1 hr.2.2.2⟩
          · have hb := nd_f hc3
            refine wskip ?_
            show AWp _ _ _ _ _
            refine wreg fun K hK => ?_
            simp [C.impl_LaurentOk, fS, tS, wrap_succ (show x1 < 4611686018427387904 by omega)]
            refine hK _ ?_; clear hK K
            simp [C.impl_LaurentOk, fS, tS]
            refine hR1 (x1 + 1) ⟨h1, ?_, descT_step h1 hdesc hb.2.2⟩ (by omega)
            rw [List.take_succ_eq_append_getElem h1]
            intro t ht
            rcases List.mem_append.1 ht with ht | ht
            · exact hgood t ht
            · simp only [List.mem_singleton] at ht
              rw [ht]
              have ho := okE_iff.1 hb.1
              exact ⟨ho.1, hb.2.1.1, hb.2.1.2, ho.2⟩
        clear hK
        by_cases ha : okE f.ts[x1].e f.v = true
        · by_cases hb : f.ts[x1].c ≠ 0 ∧ -1000000 ≤ f.ts[x1].c ∧ f.ts[x1].c ≤ 1000000
          · by_cases hd : 0 < x1
            · obtain ⟨m, rfl⟩ : ∃ m, x1 = m + 1 := ⟨x1 - 1, by omega⟩
              have hm : m < f.ts.length := by omega
              refine opsI_seg fun L hL => ?_
              simp [C.impl_LaurentOk, fS, tS, hm, tS_0 hm, wrap_nat (show m < 4611686018427387904 by omega), ha, hb, hd]
              refine wcall1 (impl_expOk_calls f.ts[m + 1].e f.v (hxe _ (List.getElem_mem h1))) (by simp) (by simp) ?_
              simp [C.impl_LaurentOk, fS, tS, hm, tS_0 hm, wrap_nat (show m < 4611686018427387904 by omega), ha, hb, hd]
              refine hL _ ?_; clear hL L
              refine opsI_seg fun L hL => ?_
              simp [C.impl_LaurentOk, fS, tS, hm, tS_0 hm, wrap_nat (show m < 4611686018427387904 by omega), ha, hb, hd]
              refine wcall1 (impl_coefOk_calls f.ts[m + 1].c) (by simp) (by simp) ?_
              simp [C.impl_LaurentOk, fS, tS, hm, tS_0 hm, wrap_nat (show m < 4611686018427387904 by omega), ha, hb, hd]
              refine hL _ ?_; clear hL L
              refine opsI_seg fun L hL => ?_
              simp [C.impl_LaurentOk, fS, tS, hm, tS_0 hm, wrap_nat (show m < 4611686018427387904 by omega), ha, hb, hd]
              refine wcall1 (slices_Compare_int_int_calls f.ts[m].e f.ts[m + 1].e (hxe _ (List.getElem_mem hm))) (by simp) (by simp) ?_
              simp [C.impl_LaurentOk, fS, tS, hm, tS_0 hm, wrap_nat (show m < 4611686018427387904 by omega), ha, hb, hd]
              refine hL _ ?_; clear hL L
              refine opsI_end fun L hL => ?_
              simp [C.impl_LaurentOk, fS, tS, hm, tS_0 hm, wrap_nat (show m < 4611686018427387904 by omega), ha, hb, hd]
              refine hL _ ?_; clear hL L
              simp [C.impl_LaurentOk, fS, tS, hm, tS_0 hm, wrap_nat (show m < 4611686018427387904 by omega), ha, hb, hd]
              refine cast (congrArg K ?_) hJ
              simp [cmpL_pos, fS, tS, ha, hb, hd]
            · obtain rfl : x1 = 0 := by omega
              refine opsI_seg fun L hL => ?_
              simp [C.impl_LaurentOk, fS, tS, ha, hb, hd]
              refine wcall1 (impl_expOk_calls f.ts[0].e f.v (hxe _ (List.getElem_mem h1))) (by simp) (by simp) ?_
              simp [C.impl_LaurentOk, fS, tS, ha, hb, hd]
              refine hL _ ?_; clear hL L
              refine opsI_seg fun L hL => ?_
              simp [C.impl_LaurentOk, fS, tS, ha, hb, hd]
              refine wcall1 (impl_coefOk_calls f.ts[0].c) (by simp) (by simp) ?_
              simp [C.impl_LaurentOk, fS, tS, ha, hb, hd]
              refine hL _ ?_; clear hL L
              refine opsI_seg fun L hL => ?_
              simp [C.impl_LaurentOk, fS, tS, ha, hb, hd]
              refine hL _ ?_; clear hL L
              refine opsI_end fun L hL => ?_
              simp [C.impl_LaurentOk, fS, tS, ha, hb, hd]
              refine hL _ ?_; clear hL L
              simp [C.impl_LaurentOk, fS, tS, ha, hb, hd]
              refine cast (congrArg K ?_) hJ
              simp [fS, tS, ha, hb, hd]
          · refine opsI_seg fun L hL => ?_
            simp [C.impl_LaurentOk, fS, tS, ha, hb]
            refine wcall1 (impl_expOk_calls f.ts[x1].e f.v (hxe _ (List.getElem_mem h1))) (by simp) (by simp) ?_
            simp [C.impl_LaurentOk, fS, tS, ha, hb]
            refine hL _ ?_; clear hL L
            refine opsI_seg fun L hL => ?_
            simp [C.impl_LaurentOk, fS, tS, ha, hb]
            refine wcall1 (impl_coefOk_calls f.ts[x1].c) (by simp) (by simp) ?_
            simp [C.impl_LaurentOk, fS, tS, ha, hb]
            refine hL _ ?_; clear hL L
            refine opsI_seg fun L hL => ?_
            simp [C.impl_LaurentOk, fS, tS, ha, hb]
            refine hL _ ?_; clear hL L
            refine opsI_end fun L hL => ?_
            simp [C.impl_LaurentOk, fS, tS, ha, hb]
            refine hL _ ?_; clear hL L
            simp [C.impl_LaurentOk, fS, tS, ha, hb]
            refine cast (congrArg K ?_) hJ
            simp [fS, tS, ha, hb]
        · refine opsI_seg fun L hL => ?_
          simp [C.impl_LaurentOk, fS, tS, ha]
          refine wcall1 (impl_expOk_calls f.ts[x1].e f.v (hxe _ (List.getElem_mem h1))) (by simp) (by simp) ?_
          simp [C.impl_LaurentOk, fS, tS, ha]
          refine hL _ ?_; clear hL L
          refine opsI_seg fun L hL => ?_
          simp [C.impl_LaurentOk, fS, tS, ha]
          refine hL _ ?_; clear hL L
          refine opsI_seg fun L hL => ?_
          simp [C.impl_LaurentOk, fS, tS, ha]
          refine hL _ ?_; clear hL L
          refine opsI_end fun L hL => ?_
          simp [C.impl_LaurentOk, fS, tS, ha]
          refine hL _ ?_; clear hL L
          simp [C.impl_LaurentOk, fS, tS, ha]
          refine cast (congrArg K ?_) hJ
          simp [fS, tS, ha]
      · have h2 : x1 = f.ts.length := by have := d_f hc2; omega
        refine wexit ?_
        show AWp _ _ _ _ _
        refine wseq ?_
        refine wreg fun K hK => ?_
        simp [C.impl_LaurentOk, fS, tS]
        refine hK _ ?_; clear hK K
        show AWp _ _ _ _ _
        refine wret ?_
        simp [C.impl_LaurentOk, fS, tS]
        rw [h2, List.take_length] at hgood hdesc
        exact ⟨hh.1, hh.2, hgood, hdesc⟩
  clear hK
  by_cases ha : 1 ≤ f.v ∧ f.v ≤ 8
  · refine opsI_seg fun L hL => ?_
    simp [C.impl_LaurentOk, fS, tS, ha]
    refine wcall1 (impl_within_calls f.v 1 8) (by simp) (by simp) ?_
    simp [C.impl_LaurentOk, fS, tS, ha]
    refine hL _ ?_; clear hL L
    refine opsI_end fun L hL => ?_
    simp [C.impl_LaurentOk, fS, tS, ha]
    refine hL _ ?_; clear hL L
    simp [C.impl_LaurentOk, fS, tS, ha]
    refine cast (congrArg K ?_) hJ
    simp [fS, tS, ha]
  · refine opsI_seg fun L hL => ?_
    simp [C.impl_LaurentOk, fS, tS, ha]
    refine wcall1 (impl_within_calls f.v 1 8) (by simp) (by simp) ?_
    simp [C.impl_LaurentOk, fS, tS, ha]
    refine hL _ ?_; clear hL L
    refine opsI_end fun L hL => ?_
    simp [C.impl_LaurentOk, fS, tS, ha]
    refine hL _ ?_; clear hL L
    simp [C.impl_LaurentOk, fS, tS, ha]
    refine cast (congrArg K ?_) hJ
    simp [fS, tS, ha]

theorem impl_bothOk_calls (f g : Lau) (hx : f.ts.length < 4611686018427387904) (hxe : ∀ t ∈ f.ts, t.e.length < 4611686018427387904) (hy : g.ts.length < 4611686018427387904) (hye : ∀ t ∈ g.ts, t.e.length < 4611686018427387904) : ACalls Try.prog F.impl_bothOk [aF f, aF g] [] true (fun outs res => outs = [] ∧ res = [.one (D.bool (decide (Right f ∧ Right g ∧ f.v = g.v)))]) := by
  refine ACalls.of_body (C := C.impl_bothOk) (n := Try.f52.ntmps) tabT folT Try.func52 rfl (by kernel_rfl) rfl (Nat.le_of_ble_eq_true rfl) (by decide) (by kernel_rfl) (by kernel_rfl) rfl (by simp) (by simp) ?_
  simp only [Try.f52]
  refine wseq ?_
  refine wreg fun K hK => ?_
  simp [C.impl_bothOk, fS]
  refine hK _ ?_; clear hK K
  show AWp _ _ _ _ _
  refine wseq ?_
  refine wregI ([0, 1] ++ ([2, 3, 4] ++ ([5, 6, 7, 8, 9, 10, 11, 12, 13]))) rfl fun K hK => ?_
  have hJ : K ⟨ofL [(4, .bool (decide (Right f ∧ Right g ∧ f.v = g.v)))], ofRO []⟩ := by
    refine hK _ ?_; clear hK K
    show AWp _ _ _ _ _
    refine wret ?_
    simp [C.impl_bothOk, fS]
  clear hK
  by_cases ha : Right f
  · by_cases hb : Right g
    · refine opsI_seg fun L hL => ?_
      simp [C.impl_bothOk, fS, ha, hb]
      refine wcall1 (impl_LaurentOk_calls f hx hxe) (by simp) (by simp) ?_
      simp [C.impl_bothOk, fS, ha, hb]
      refine hL _ ?_; clear hL L
      refine opsI_seg fun L hL => ?_
      simp [C.impl_bothOk, fS, ha, hb]
      refine wcall1 (impl_LaurentOk_calls g hy hye) (by simp) (by simp) ?_
      simp [C.impl_bothOk, fS, ha, hb]
      refine hL _ ?_; clear hL L
      refine opsI_end fun L hL => ?_
      simp [C.impl_bothOk, fS, ha, hb]
      refine hL _ ?_; clear hL L
      simp [C.impl_bothOk, fS, ha, hb]
      refine cast (congrArg K ?_) hJ
      simp [ibeq, fS, ha, hb]
    · refine opsI_seg fun L hL => ?_
      simp [C.impl_bothOk, fS, ha, hb]
      refine wcall1 (impl_LaurentOk_calls f hx hxe) (by simp) (by simp) ?_
      simp [C.impl_bothOk, fS, ha, hb]
      refine hL _ ?_; clear hL L
      refine opsI_seg fun L hL => ?_
      simp [C.impl_bothOk, fS, ha, hb]
      refine wcall1 (impl_LaurentOk_calls g hy hye) (by simp) (by simp) ?_
      simp [C.impl_bothOk, fS, ha, hb]
      refine hL _ ?_; clear hL L
      refine opsI_end fun L hL => ?_
      simp [C.impl_bothOk, fS, ha, hb]
      refine hL _ ?_; clear hL L
      simp [C.impl_bothOk, fS, ha, hb]
      refine cast (congrArg K ?_) hJ
      simp [ibeq, fS, ha, hb]
  · refine opsI_seg fun L hL => ?_
    simp [C.impl_bothOk, fS, ha]
    refine wcall1 (impl_LaurentOk_calls f hx hxe) (by simp) (by simp) ?_
    simp [C.impl_bothOk, fS, ha]
    refine hL _ ?_; clear hL L
    refine opsI_seg fun L hL => ?_
    simp [C.impl_bothOk, fS, ha]
    refine hL _ ?_; clear hL L
    refine opsI_end fun L hL => ?_
    simp [C.impl_bothOk, fS, ha]
    refine hL _ ?_; clear hL L
    simp [C.impl_bothOk, fS, ha]
    refine cast (congrArg K ?_) hJ
    simp [ibeq, fS, ha]

end Go.Proofs.Ytocknokodgnlbaa.Ab
namespace Go.Proofs.Ytocknokodgnlbaa.Ab
open Go
set_option linter.unusedSimpArgs false
set_option linter.unusedVariables false
set_option maxRecDepth 10000
set_option maxHeartbeats 2000000
attribute [local simp] mapKV flatInt tileB
def pad (e : List Int) : List Int := e ++ List.replicate (8 - e.length) 0
theorem pad_length {e : List Int} (h : e.length ≤ 8) : (pad e).length = 8 := by
  unfold pad
  simp
  omega
theorem eight {l : List Int} (h : l.length = 8) : ∃ a b c d e f g k, l = [a, b, c, d, e, f, g, k] := by
  match l, h with
  | [a, b, c, d, e, f, g, k], _ => exact ⟨a, b, c, d, e, f, g, k, rfl⟩
def madd (es : List (List Int × Int)) (k : List Int) (c : Int) : List (List Int × Int) :=
  if c + (mget k es).getD 0 = 0 then mdel k es else mset k (c + (mget k es).getD 0) es
theorem impl_keyOf_calls (e : List Int) (he : e.length ≤ 8) (k0 k1 k2 k3 k4 k5 k6 k7 : Int) (hk : pad e = [k0, k1, k2, k3, k4, k5, k6, k7]) : ACalls Try.prog F.impl_keyOf [.d (shI e)] [] true (fun outs res => outs = [] ∧ res = [.ag [D.int k0, D.int k1, D.int k2, D.int k3, D.int k4, D.int k5, D.int k6, D.int k7]]) := by
  refine ACalls.of_body (C := C.impl_keyOf) (n := Try.f56.ntmps) tabT folT Try.func56 rfl (by kernel_rfl) rfl (Nat.le_of_ble_eq_true rfl) (by decide) (by kernel_rfl) (by kernel_rfl) rfl (by simp) (by simp) ?_
  simp only [Try.f56]
  refine wseq ?_
  refine wreg fun K hK => ?_
  simp [C.impl_keyOf]
  refine hK _ ?_; clear hK K
  show AWp _ _ _ _ _
  refine wseq ?_
  refine wreg fun K hK => ?_
  simp [C.impl_keyOf]
  refine hK _ ?_; clear hK K
  show AWp _ _ _ _ _
  refine wseq ?_
  have hcp : ints (e.take (min e.length 8)) ++ List.drop (min e.length 8) [D.int 0, D.int 0, D.int 0, D.int 0, D.int 0, D.int 0, D.int 0, D.int 0] = [D.int k0, D.int k1, D.int k2, D.int k3, D.int k4, D.int k5, D.int k6, D.int k7] := by
    have hz : ([D.int 0, D.int 0, D.int 0, D.int 0, D.int 0, D.int 0, D.int 0, D.int 0] : List D) = ints (List.replicate 8 0) := rfl
    rw [hz, Nat.min_eq_left he, List.take_length, ints_drop, ints_append, List.drop_replicate]
    show ints (pad e) = _
    rw [hk]
    rfl
  refine wreg fun K hK => ?_
  simp [C.impl_keyOf]
  rw [hcp]
  refine hK _ ?_; clear hK K
  show AWp _ _ _ _ _
  refine wseq ?_
  refine wreg fun K hK => ?_
  simp [C.impl_keyOf]
  refine hK _ ?_; clear hK K
  show AWp _ _ _ _ _
  refine wret ?_
  simp [C.impl_keyOf]

theorem impl_newBuilding_calls (v : Int) : ACalls Try.prog F.impl_newBuilding [.int v] [] true (fun outs res => outs = [] ∧ res = [.one (.bx [D.int v, .mp []])]) := by
  refine ACalls.of_body (C := C.impl_newBuilding) (n := Try.f53.ntmps) tabT folT Try.func53 rfl (by kernel_rfl) rfl (Nat.le_of_ble_eq_true rfl) (by decide) (by kernel_rfl) (by kernel_rfl) rfl (by simp) (by simp) ?_
  simp only [Try.f53]
  refine wseq ?_
  refine wreg fun K hK => ?_
  simp [C.impl_newBuilding]
  refine hK _ ?_; clear hK K
  show AWp _ _ _ _ _
  refine wseq ?_
  refine wreg fun K hK => ?_
  simp [C.impl_newBuilding]
  refine hK _ ?_; clear hK K
  show AWp _ _ _ _ _
  refine wret ?_
  simp [C.impl_newBuilding]

theorem impl_building_add_calls (v c : Int) (es : List (List Int × Int)) (k0 k1 k2 k3 k4 k5 k6 k7 : Int) (hes : mapLen 8 es) (hw : -9223372036854775808 ≤ c + (mget [k0, k1, k2, k3, k4, k5, k6, k7] es).getD 0 ∧ c + (mget [k0, k1, k2, k3, k4, k5, k6, k7] es).getD 0 < 9223372036854775808) : ACalls Try.prog F.impl_building_add [.pt (0, 0) [] 0, .ag [.int k0, .int k1, .int k2, .int k3, .int k4, .int k5, .int k6, .int k7], .int c] [((0, 0), .bx [D.int v, .mp es])] true (fun outs res => outs = [.bx [D.int v, .mp (madd es [k0, k1, k2, k3, k4, k5, k6, k7] c)]] ∧ res = []) := by
  refine ACalls.of_body (C := C.impl_building_add) (n := Try.f54.ntmps) tabT folT Try.func54 rfl (by kernel_rfl) rfl (Nat.le_of_ble_eq_true rfl) (by decide) (by kernel_rfl) (by kernel_rfl) rfl (by simp) (by simp) ?_
  simp only [Try.f54]
  refine wseq ?_
  refine wreg fun K hK => ?_
  simp [C.impl_building_add]
  refine hK _ ?_; clear hK K
  show AWp _ _ _ _ _
  refine wseq ?_
  refine wdraw (.take 0 (.take 1 (.take 2 (.take 3 (.take 4 (.take 5 (.take 6 (.take 7 (.take 8 (.done)))))))))) ⟨by kernel_rfl, by kernel_rfl⟩ fun K hK => ?_
  simp [C.impl_building_add, hes]
  rw [wrapOk (x := c + (mget [k0, k1, k2, k3, k4, k5, k6, k7] es).getD 0) hw.1 hw.2]
  refine hK _ ?_; clear hK K
  show AWp _ _ _ _ _
  refine wseq ?_
  refine wreg fun K hK => ?_
  simp [C.impl_building_add]
  refine hK _ ?_; clear hK K
  show AWp _ _ _ _ _
  refine wcond _ rfl (fun hc1 => ?_) (fun hc1 => ?_)
  · have hz : c + (mget [k0, k1, k2, k3, k4, k5, k6, k7] es).getD 0 = 0 := by simpa using hc1
    refine wdraw (.take 0 (.take 1 (.take 2 (.take 3 (.take 4 (.all [(5, .done)])))))) ⟨by kernel_rfl, by kernel_rfl⟩ fun K hK => ?_
    simp [C.impl_building_add, hes]
    refine hK _ ?_; clear hK K
    simp [C.impl_building_add, madd, hz]
  · have hz : ¬ c + (mget [k0, k1, k2, k3, k4, k5, k6, k7] es).getD 0 = 0 := by simpa using hc1
    refine wdraw (.take 0 (.take 1 (.take 2 (.take 3 (.take 4 (.take 5 (.all [(6, .done)]))))))) ⟨by kernel_rfl, by kernel_rfl⟩ fun K hK => ?_
    simp [C.impl_building_add, hes]
    refine hK _ ?_; clear hK K
    simp [C.impl_building_add, madd, hz]

theorem impl_plusExp_calls (t : Int) (a0 a1 a2 a3 a4 a5 a6 a7 b0 b1 b2 b3 b4 b5 b6 b7 : Int) (ht : -1 ≤ t ∧ t ≤ 1) (ha : ∀ x ∈ [a0, a1, a2, a3, a4, a5, a6, a7], -1000000 ≤ x ∧ x ≤ 1000000) (hb : ∀ x ∈ [b0, b1, b2, b3, b4, b5, b6, b7], -1000000 ≤ x ∧ x ≤ 1000000) : ACalls Try.prog F.impl_plusExp [.ag [.int a0, .int a1, .int a2, .int a3, .int a4, .int a5, .int a6, .int a7], .int t, .ag [.int b0, .int b1, .int b2, .int b3, .int b4, .int b5, .int b6, .int b7]] [] true (fun outs res => outs = [] ∧ res = [.ag [D.int (a0 + t * b0), D.int (a1 + t * b1), D.int (a2 + t * b2), D.int (a3 + t * b3), D.int (a4 + t * b4), D.int (a5 + t * b5), D.int (a6 + t * b6), D.int (a7 + t * b7)]]) := by
  refine ACalls.of_body (C := C.impl_plusExp) (n := Try.f55.ntmps) tabT folT Try.func55 rfl (by kernel_rfl) rfl (Nat.le_of_ble_eq_true rfl) (by decide) (by kernel_rfl) (by kernel_rfl) rfl (by simp) (by simp) ?_
  simp only [Try.f55]
  refine wseq ?_
  refine wreg fun K hK => ?_
  simp [C.impl_plusExp]
  refine hK _ ?_; clear hK K
  show AWp _ _ _ _ _
  refine wseq ?_
  refine wseq ?_
  refine wreg fun K hK => ?_
  simp [C.impl_plusExp]
  refine hK _ ?_; clear hK K
  show AWp _ _ _ _ _
  refine wblock ?_
  refine wloop (fun x : Nat × List Int => ⟨ofL [(1, .int t), (3, .pt (3, 0) [] 0), (5, .pt (5, 0) [] 0), (6, .pt (6, 0) [] 0), (8, .int x.1)], ofRO [((3, 0), some (.bx (ints x.2))), ((5, 0), some (.bx (ints [b0, b1, b2, b3, b4, b5, b6, b7]))), ((6, 0), some (.bx (ints [0, 0, 0, 0, 0, 0, 0, 0])))]⟩) (fun x => x.1 ≤ 8 ∧ x.2 = addE t ([a0, a1, a2, a3, a4, a5, a6, a7].take x.1) ([b0, b1, b2, b3, b4, b5, b6, b7].take x.1) ++ [a0, a1, a2, a3, a4, a5, a6, a7].drop x.1) (fun x => 8 - x.1) (0, [a0, a1, a2, a3, a4, a5, a6, a7]) (by simp [C.impl_plusExp, ints]) (by simp [addE]) ?_
  intro x1 hx1 R1 hR1
  obtain ⟨i, gs⟩ := x1
  obtain ⟨hi, hg⟩ := hx1
  dsimp only at hi hg ⊢
  refine wseq ?_
  refine wreg fun K hK => ?_
  simp [C.impl_plusExp]
  refine hK _ ?_; clear hK K
  show AWp _ _ _ _ _
  refine wseq ?_
  refine wcond _ rfl (fun hc1 => ?_) (fun hc1 => ?_)
  · have h1 : i < 8 := by have := d_t hc1; omega
    have hgl : gs.length = 8 := by
      rw [hg]
      simp [addE_length]
      omega
    have h2 : i < gs.length := by omega
    have h3 : i < [b0, b1, b2, b3, b4, b5, b6, b7].length := by simpa using h1
    have h4 : i < [a0, a1, a2, a3, a4, a5, a6, a7].length := by simpa using h1
    have hge : gs[i] = [a0, a1, a2, a3, a4, a5, a6, a7][i] := by
      have := addE_get (t := t) h4 (show [a0, a1, a2, a3, a4, a5, a6, a7].length = [b0, b1, b2, b3, b4, b5, b6, b7].length from rfl)
      rw [← hg, List.getElem?_eq_getElem h2] at this
      injection this
    have hA := ha _ (List.getElem_mem h4)
    have hB := hb _ (List.getElem_mem h3)
    generalize hbi : [b0, b1, b2, b3, b4, b5, b6, b7][i] = B at hB
    generalize hai : [a0, a1, a2, a3, a4, a5, a6, a7][i] = A at hA hge
    have htb : -1000000 ≤ t * B ∧ t * B ≤ 1000000 := by
      rcases (show t = -1 ∨ t = 0 ∨ t = 1 by omega) with rfl | rfl | rfl <;> omega
    refine wskip ?_
    show AWp _ _ _ _ _
    refine wseq ?_
    refine wblock ?_
    refine wseq ?_
    refine wreg fun K hK => ?_
    simp [C.impl_plusExp]
    refine hK _ ?_; clear hK K
    show AWp _ _ _ _ _
    refine wdraw (.take 0 (.take 1 (.take 2 (.take 3 (.take 4 (.take 5 (.take 6 (.take 7 (.take 8 (.take 9 (.all [(10, .done)]))))))))))) ⟨by kernel_rfl, by kernel_rfl⟩ fun K hK => ?_
    simp [C.impl_plusExp, show ((i : Int) < 8) by omega, h1, hgl, get_ints]
    rw [hbi, hge, wrapOk (x := t * B) (by omega) (by omega), wrapOk (x := A + t * B) (by omega) (by omega)]
    refine hK _ ?_; clear hK K
    show AWp _ _ _ _ _
    refine wreg fun K hK => ?_
    simp [C.impl_plusExp, wrap_succ (show i < 4611686018427387904 by omega)]
    refine hK _ ?_; clear hK K
    simp [C.impl_plusExp]
    refine hR1 (i + 1, _) ⟨h1, ?_⟩ (by dsimp only; omega)
    dsimp only
    rw [hg, ← hai, ← hbi]
    exact addE_step (bs := [b0, b1, b2, b3, b4, b5, b6, b7]) h4 rfl
  · have h1 : i = 8 := by have := d_f hc1; omega
    subst h1
    have hg2 : gs = [a0 + t * b0, a1 + t * b1, a2 + t * b2, a3 + t * b3, a4 + t * b4, a5 + t * b5, a6 + t * b6, a7 + t * b7] := by rw [hg]; rfl
    subst hg2
    refine wexit ?_
    show AWp _ _ _ _ _
    refine wseq ?_
    refine wreg fun K hK => ?_
    simp [C.impl_plusExp, ints]
    refine hK _ ?_; clear hK K
    show AWp _ _ _ _ _
    refine wret ?_
    simp [C.impl_plusExp]

end Go.Proofs.Ytocknokodgnlbaa.Ab
namespace Go.Proofs.Ytocknokodgnlbaa.Ab
open Go
set_option linter.unusedSimpArgs false
set_option linter.unusedVariables false
set_option maxRecDepth 10000
set_option maxHeartbeats 2000000
def MulOk : Prop := ∀ f g : Lau, f.ts.length < 4611686018427387904 → (∀ t ∈ f.ts, t.e.length < 4611686018427387904) → g.ts.length < 4611686018427387904 → (∀ t ∈ g.ts, t.e.length < 4611686018427387904) →
  ACalls Try.prog F.impl_MulLaurents [aF f, aF g] [] true (fun outs res => outs = [] ∧ res = [.ag (fO (mulF f g).1), .one (D.bool (mulF f g).2)])
theorem impl_ConstantLaurent_calls (n : Nat) (hn : 1 ≤ n ∧ n ≤ 8) : ACalls Try.prog F.impl_ConstantLaurent [.int n, .int 1] [] true (fun outs res => outs = [] ∧ res = [.ag (fO (oneF n))]) := by
  refine ACalls.of_body (C := C.impl_ConstantLaurent) (n := Try.f75.ntmps) tabT folT Try.func75 rfl (by kernel_rfl) rfl (Nat.le_of_ble_eq_true rfl) (by decide) (by kernel_rfl) (by kernel_rfl) rfl (by simp) (by simp) ?_
  simp only [Try.f75]
  refine wseq ?_
  refine wreg fun K hK => ?_
  simp [C.impl_ConstantLaurent]
  refine hK _ ?_; clear hK K
  show AWp _ _ _ _ _
  refine wseq ?_
  refine wseq ?_
  refine wregI ([0, 1] ++ ([2, 3, 4, 5] ++ ([6, 7]))) rfl fun K hK => ?_
  refine opsI_seg fun L hL => ?_
  simp [C.impl_ConstantLaurent, show (1 ≤ (n : Int)) by omega, show ((n : Int) ≤ 8) by omega]
  refine wcall1 (impl_within_calls n 1 8) (by simp) (by simp) ?_
  simp [C.impl_ConstantLaurent, show (1 ≤ (n : Int)) by omega, show ((n : Int) ≤ 8) by omega]
  refine hL _ ?_; clear hL L
  refine opsI_seg fun L hL => ?_
  simp [C.impl_ConstantLaurent, show (1 ≤ (n : Int)) by omega, show ((n : Int) ≤ 8) by omega]
  refine wcall1 (impl_within_calls 1 (-1000000) 1000000) (by simp) (by simp) ?_
  simp [C.impl_ConstantLaurent, show (1 ≤ (n : Int)) by omega, show ((n : Int) ≤ 8) by omega]
  refine hL _ ?_; clear hL L
  refine opsI_end fun L hL => ?_
  simp [C.impl_ConstantLaurent, show (1 ≤ (n : Int)) by omega, show ((n : Int) ≤ 8) by omega]
  refine hL _ ?_; clear hL L
  simp [C.impl_ConstantLaurent, show (1 ≤ (n : Int)) by omega, show ((n : Int) ≤ 8) by omega]
  refine hK _ ?_; clear hK K
  show AWp _ _ _ _ _
  refine wcond _ rfl (fun hc1 => ?_) (fun hc1 => ?_)
  · simp at hc1
  · refine wskip ?_
    show AWp _ _ _ _ _
    refine wseq ?_
    refine wseq ?_
    refine wreg fun K hK => ?_
    simp [C.impl_ConstantLaurent]
    refine hK _ ?_; clear hK K
    show AWp _ _ _ _ _
    refine wcond _ rfl (fun hc2 => ?_) (fun hc2 => ?_)
    · simp at hc2
    · refine wskip ?_
      show AWp _ _ _ _ _
      refine wseq ?_
      refine wreg fun K hK => ?_
      simp [C.impl_ConstantLaurent, zeros_ints, show (8 : Int) * n ≤ 281474976710656 by omega, show (n : Int) ≤ 281474976710656 by omega]
      refine hK _ ?_; clear hK K
      show AWp _ _ _ _ _
      refine wret ?_
      simp [C.impl_ConstantLaurent, fO, oneF, rows, tO]

theorem impl_PowerLaurent_calls (hMul : MulOk) (f : Lau) (n : Int) (hx : f.ts.length < 4611686018427387904) (hxe : ∀ t ∈ f.ts, t.e.length < 4611686018427387904) : ACalls Try.prog F.impl_PowerLaurent [aF f, .int n] [] true (fun outs res => outs = [] ∧ WkRs res [.ag (fO (powF f n).1), .one (D.bool (powF f n).2)]) := by
  refine ACalls.of_body (C := C.impl_PowerLaurent) (n := Try.f22.ntmps) tabT folT Try.func22 rfl (by kernel_rfl) rfl (Nat.le_of_ble_eq_true rfl) (by decide) (by kernel_rfl) (by kernel_rfl) rfl (by simp) (by simp) ?_
  simp only [Try.f22]
  refine wseq ?_
  refine wreg fun K hK => ?_
  simp [C.impl_PowerLaurent, fS, fO]
  refine hK _ ?_; clear hK K
  show AWp _ _ _ _ _
  refine wseq ?_
  refine wseq ?_
  refine wregI ([0, 1] ++ ([2, 3, 4, 5] ++ ([6, 7]))) rfl fun K hK => ?_
  have hJ : K ⟨ofL [(1, .int n), (2, .pt (2, 0) [] 0), (4, .pt (4, 0) [] 0), (15, .bool (!decide (Right f ∧ 0 ≤ n ∧ n ≤ 8)))], ofRO [((2, 0), some (.bx (fS f))), ((4, 0), some (.bx [D.int 0, .v (.slice none 0 0)]))]⟩ := by
    refine hK _ ?_; clear hK K
    show AWp _ _ _ _ _
    refine wcond _ rfl (fun hc1 => ?_) (fun hc1 => ?_)
    · have hr := nd_t hc1
      have hm : powF f n = (zeroF, false) := if_neg hr
      refine wseq ?_
      refine wreg fun K hK => ?_
      simp [C.impl_PowerLaurent, fS, fO]
      refine hK _ ?_; clear hK K
      show AWp _ _ _ _ _
      refine wret ?_
      simp [C.impl_PowerLaurent, fS, fO, hm, zeroF, rows]
    · have hr := nd_f hc1
      obtain ⟨hf, hn⟩ := hr
      obtain ⟨k, rfl⟩ : ∃ k : Nat, n = k := ⟨n.toNat, by omega⟩
      have hm : powF f k = (match powL f k with | some g => (g, true) | none => (zeroF, false)) := by
        unfold powF
        rw [if_pos ⟨hf, hn⟩]
        simp <;> rfl
      have hv := hf.1
      obtain ⟨q, hq⟩ : ∃ q : Nat, f.v = q := ⟨f.v.toNat, by omega⟩
      have hp0 : powL f 0 = some (oneF q) := by simp [powL, hq]
      refine wskip ?_
      show AWp _ _ _ _ _
      refine wseq ?_
      refine wregI ([0, 1, 2] ++ ([3, 4])) rfl fun K hK => ?_
      refine opsI_seg fun L hL => ?_
      simp [C.impl_PowerLaurent, fS, fO]
      refine wcall1 (impl_ConstantLaurent_calls q (by omega)) (by simp; omega) (by simp) ?_
      simp [C.impl_PowerLaurent, fS, fO]
      refine hL _ ?_; clear hL L
      refine opsI_end fun L hL => ?_
      simp [C.impl_PowerLaurent, fS, fO]
      refine hL _ ?_; clear hL L
      simp [C.impl_PowerLaurent, fS, fO]
      refine hK _ ?_; clear hK K
      show AWp _ _ _ _ _
      refine wseq ?_
      refine wreg fun K hK => ?_
      simp [C.impl_PowerLaurent, fS, fO]
      refine hK _ ?_; clear hK K
      show AWp _ _ _ _ _
      refine wseq ?_
      refine wblock ?_
      refine wloop (fun x : Nat × Lau => ⟨ofL [(1, .int x.1), (2, .pt (2, 0) [] 0), (4, .pt (4, 0) [] 0), (6, .pt (6, 0) [] 0)], ofRO [((2, 0), some (.bx (fS f))), ((4, 0), some (.bx [D.int 0, .v (.slice none 0 0)])), ((6, 0), some (.bx (fO x.2)))]⟩) (fun x => x.1 ≤ k ∧ powL f (k - x.1) = some x.2) (fun x => x.1) (k, oneF q) (by simp [C.impl_PowerLaurent, fS, fO]) ⟨by simp, by simpa using hp0⟩ ?_
      intro x1 hx1 R1 hR1
      obtain ⟨i, g⟩ := x1
      obtain ⟨hi, hg⟩ := hx1
      dsimp only at hi hg ⊢
      refine wseq ?_
      refine wseq ?_
      refine wreg fun K hK => ?_
      simp [C.impl_PowerLaurent, fS, fO]
      refine hK _ ?_; clear hK K
      show AWp _ _ _ _ _
      refine wcond _ rfl (fun hc2 => ?_) (fun hc2 => ?_)
      · obtain ⟨m, rfl⟩ : ∃ m, i = m + 1 := ⟨i - 1, by have := d_t hc2; omega⟩
        have hgr := powL_right hf _ g hg
        have hs1 : k - m = (k - (m + 1)) + 1 := by omega
        refine wskip ?_
        show AWp _ _ _ _ _
        refine wseq ?_
        refine wblock ?_
        refine wseq ?_
        refine wregI ([0, 1, 2] ++ ([3, 4, 5, 6, 7])) rfl fun K hK => ?_
        refine opsI_seg fun L hL => ?_
        simp [C.impl_PowerLaurent, fS, fO]
        refine wcall1 (hMul g f (right_small hgr).1 (right_small hgr).2 hx hxe) (by simp) (by simp) ?_
        simp [C.impl_PowerLaurent, fS, fO]
        refine hL _ ?_; clear hL L
        refine opsI_end fun L hL => ?_
        simp [C.impl_PowerLaurent, fS, fO]
        refine hL _ ?_; clear hL L
        simp [C.impl_PowerLaurent, fS, fO]
        refine hK _ ?_; clear hK K
        show AWp _ _ _ _ _
        refine wseq ?_
        refine wreg fun K hK => ?_
        simp [C.impl_PowerLaurent, fS, fO]
        refine hK _ ?_; clear hK K
        show AWp _ _ _ _ _
        refine wcond _ rfl (fun hc3 => ?_) (fun hc3 => ?_)
        · have hb : (mulF g f).2 = false := by simpa using hc3
          have hnone : powL f (k - m) = none := by rw [hs1]; simp [powL, hg, hb]
          have hk := powL_none hnone (show k - m ≤ k by omega)
          refine wseq ?_
          refine wreg fun K hK => ?_
          simp [C.impl_PowerLaurent, fS, fO]
          refine hK _ ?_; clear hK K
          show AWp _ _ _ _ _
          refine wret ?_
          simp [C.impl_PowerLaurent, fS, fO, hm, hk, zeroF, rows]
        · have hb : (mulF g f).2 = true := by simpa using hc3
          refine wskip ?_
          show AWp _ _ _ _ _
          refine wreg fun K hK => ?_
          simp [C.impl_PowerLaurent, fS, fO, wrap_nat (show m < 4611686018427387904 by omega)]
          refine hK _ ?_; clear hK K
          simp [C.impl_PowerLaurent, fS, fO]
          exact hR1 (m, (mulF g f).1) ⟨by dsimp only; omega, by dsimp only; rw [hs1]; simp [powL, hg, hb]⟩ (by dsimp only; omega)
      · have hik : i = 0 := by have := d_f hc2; omega
        subst hik
        have hg2 : powL f k = some g := hg
        refine wexit ?_
        show AWp _ _ _ _ _
        refine wseq ?_
        refine wreg fun K hK => ?_
        simp [C.impl_PowerLaurent, fS, fO]
        refine hK _ ?_; clear hK K
        show AWp _ _ _ _ _
        refine wret ?_
        simp [C.impl_PowerLaurent, fS, fO, hm, hg2]
  clear hK
  by_cases ha : Right f
  · by_cases hb : 0 ≤ n ∧ n ≤ 8
    · refine opsI_seg fun L hL => ?_
      simp [C.impl_PowerLaurent, fS, fO, ha, hb]
      refine wcall1 (impl_LaurentOk_calls f hx hxe) (by simp) (by simp) ?_
      simp [C.impl_PowerLaurent, fS, fO, ha, hb]
      refine hL _ ?_; clear hL L
      refine opsI_seg fun L hL => ?_
      simp [C.impl_PowerLaurent, fS, fO, ha, hb]
      refine wcall1 (impl_within_calls n 0 8) (by simp) (by simp) ?_
      simp [C.impl_PowerLaurent, fS, fO, ha, hb]
      refine hL _ ?_; clear hL L
      refine opsI_end fun L hL => ?_
      simp [C.impl_PowerLaurent, fS, fO, ha, hb]
      refine hL _ ?_; clear hL L
      simp [C.impl_PowerLaurent, fS, fO, ha, hb]
      refine cast (congrArg K ?_) hJ
      simp [fS, fO, ha, hb]
    · refine opsI_seg fun L hL => ?_
      simp [C.impl_PowerLaurent, fS, fO, ha, hb]
      refine wcall1 (impl_LaurentOk_calls f hx hxe) (by simp) (by simp) ?_
      simp [C.impl_PowerLaurent, fS, fO, ha, hb]
      refine hL _ ?_; clear hL L
      refine opsI_seg fun L hL => ?_
      simp [C.impl_PowerLaurent, fS, fO, ha, hb]
      refine wcall1 (impl_within_calls n 0 8) (by simp) (by simp) ?_
      simp [C.impl_PowerLaurent, fS, fO, ha, hb]
      refine hL _ ?_; clear hL L
      refine opsI_end fun L hL => ?_
      simp [C.impl_PowerLaurent, fS, fO, ha, hb]
      refine hL _ ?_; clear hL L
      simp [C.impl_PowerLaurent, fS, fO, ha, hb]
      refine cast (congrArg K ?_) hJ
      simp [fS, fO, ha, hb]
  · refine opsI_seg fun L hL => ?_
    simp [C.impl_PowerLaurent, fS, fO, ha]
    refine wcall1 (impl_LaurentOk_calls f hx hxe) (by simp) (by simp) ?_
    simp [C.impl_PowerLaurent, fS, fO, ha]
    refine hL _ ?_; clear hL L
    refine opsI_seg fun L hL => ?_
    simp [C.impl_PowerLaurent, fS, fO, ha]
    refine hL _ ?_; clear hL L
    refine opsI_end fun L hL => ?_
    simp [C.impl_PowerLaurent, fS, fO, ha]
    refine hL _ ?_; clear hL L
    simp [C.impl_PowerLaurent, fS, fO, ha]
    refine cast (congrArg K ?_) hJ
    simp [fS, fO, ha]
theorem iPow_calls (hMul : MulOk) (f : Lau) (n : Int) (hx : f.ts.length < 4611686018427387904) (hxe : ∀ t ∈ f.ts, t.e.length < 4611686018427387904) : ACalls Try.prog F.impl_PowerLaurent [aF f, .int n] [] true (fun outs res => outs = [] ∧ res = [.ag (fO (powF f n).1), .one (D.bool (powF f n).2)]) := (impl_PowerLaurent_calls hMul f n hx hxe).weak1

end Go.Proofs.Ytocknokodgnlbaa.Ab
namespace Go.Proofs.Ytocknokodgnlbaa.Ab
open Go
set_option linter.unusedSimpArgs false
set_option linter.unusedVariables false
set_option linter.unusedSectionVars false

theorem pad_inj {a b : List Int} (h : a.length = b.length) (e : pad a = pad b) : a = b := by
  unfold pad at e
  rw [h] at e
  exact List.append_cancel_right e
theorem pad_take {e : List Int} : (pad e).take e.length = e := by
  unfold pad
  exact List.take_left
theorem mget_none {k : List Int} : ∀ {es : List (List Int × Int)}, (∀ x ∈ es, x.1 ≠ k) → mget k es = none
  | [], _ => rfl
  | x :: es, h => by
    simp only [mget]
    rw [if_neg (h x (by simp))]
    exact mget_none fun y hy => h y (by simp [hy])
theorem mget_mset {k q : List Int} {v : Int} : ∀ (es : List (List Int × Int)), mget q (mset k v es) = if k = q then some v else mget q es
  | [] => by simp [mset, mget]
  | x :: es => by
    simp only [mset]
    split
    · rename_i e
      subst e
      simp only [mget]
      split <;> rfl
    · rename_i e
      simp only [mget, mget_mset es]
      by_cases h1 : x.1 = q
      · rw [if_pos h1, if_neg (fun h2 => e (h1.trans h2.symm)), if_pos h1]
      · rw [if_neg h1, if_neg h1]
theorem mget_mdel {k q : List Int} : ∀ (es : List (List Int × Int)), (es.map (·.1)).Nodup → mget q (mdel k es) = if k = q then none else mget q es
  | [], _ => by simp [mdel, mget]
  | x :: es, h => by
    simp only [List.map_cons, List.nodup_cons] at h
    simp only [mdel]
    split
    · rename_i e
      subst e
      by_cases h1 : x.1 = q
      · rw [if_pos h1]
        exact mget_none fun y hy e2 => h.1 (by rw [h1, ← e2]; exact List.mem_map.2 ⟨y, hy, rfl⟩)
      · rw [if_neg h1]
        simp only [mget]
        rw [if_neg h1]
    · rename_i e
      simp only [mget, mget_mdel es h.2]
      by_cases h1 : x.1 = q
      · rw [if_pos h1, if_neg (fun h2 => e (h1.trans h2.symm)), if_pos h1]
      · rw [if_neg h1, if_neg h1]
theorem mset_mem {k : List Int} {v : Int} : ∀ {es : List (List Int × Int)} {x : List Int × Int}, x ∈ mset k v es → x = (k, v) ∨ x ∈ es
  | [], x, h => by
    simp only [mset, List.mem_singleton] at h
    exact .inl h
  | y :: es, x, h => by
    simp only [mset] at h
    split at h
    · rcases List.mem_cons.1 h with h | h
      · exact .inl h
      · exact .inr (by simp [h])
    · rcases List.mem_cons.1 h with h | h
      · exact .inr (by simp [h])
      · rcases mset_mem h with h | h
        · exact .inl h
        · exact .inr (by simp [h])
theorem mdel_mem {k : List Int} : ∀ {es : List (List Int × Int)} {x : List Int × Int}, x ∈ mdel k es → x ∈ es
  | [], x, h => by simp [mdel] at h
  | y :: es, x, h => by
    simp only [mdel] at h
    split at h
    · simp [h]
    · rcases List.mem_cons.1 h with h | h
      · simp [h]
      · simp [mdel_mem h]
theorem mset_nodup {k : List Int} {v : Int} : ∀ {es : List (List Int × Int)}, (es.map (·.1)).Nodup → ((mset k v es).map (·.1)).Nodup
  | [], _ => by simp [mset]
  | y :: es, h => by
    simp only [List.map_cons, List.nodup_cons] at h
    simp only [mset]
    split
    · rename_i e
      simp only [List.map_cons, List.nodup_cons]
      rw [← e]
      exact h
    · rename_i e
      simp only [List.map_cons, List.nodup_cons]
      refine ⟨fun hm => ?_, mset_nodup h.2⟩
      obtain ⟨z, hz, e2⟩ := List.mem_map.1 hm
      rcases mset_mem hz with rfl | hz
      · exact e e2.symm
      · exact h.1 (List.mem_map.2 ⟨z, hz, e2⟩)
theorem mdel_nodup {k : List Int} : ∀ {es : List (List Int × Int)}, (es.map (·.1)).Nodup → ((mdel k es).map (·.1)).Nodup
  | [], _ => by simp [mdel]
  | y :: es, h => by
    simp only [List.map_cons, List.nodup_cons] at h
    simp only [mdel]
    split
    · exact h.2
    · simp only [List.map_cons, List.nodup_cons]
      refine ⟨fun hm => ?_, mdel_nodup h.2⟩
      obtain ⟨z, hz, e2⟩ := List.mem_map.1 hm
      exact h.1 (List.mem_map.2 ⟨z, mdel_mem hz, e2⟩)

/-- The map holds what belongs to each key of the sum. -/
structure MapR (n : Nat) (es l : List (List Int × Int)) : Prop where
  nod : (es.map (·.1)).Nodup
  nz : ∀ x ∈ es, x.2 ≠ 0 ∧ ∃ e, e.length = n ∧ x.1 = pad e
  val : ∀ e, e.length = n → (mget (pad e) es).getD 0 = co e l
theorem MapR.nil (n : Nat) : MapR n [] [] := ⟨by simp, by simp, fun e _ => rfl⟩
theorem MapR.add {n : Nat} {es l : List (List Int × Int)} (h : MapR n es l) {e : List Int} (he : e.length = n) (c : Int) : MapR n (madd es (pad e) c) ((e, c) :: l) := by
  have hv := h.val e he
  unfold madd
  split
  · rename_i hz
    refine ⟨mdel_nodup h.nod, fun x hx => h.nz x (mdel_mem hx), fun q hq => ?_⟩
    rw [mget_mdel _ h.nod]
    by_cases e1 : e = q
    · subst e1
      rw [if_pos rfl]
      simp only [co, if_true, Option.getD_none]
      omega
    · rw [if_neg (fun e2 => e1 (pad_inj (he.trans hq.symm) e2)), h.val q hq]
      simp [co, e1]
  · rename_i hz
    refine ⟨mset_nodup h.nod, fun x hx => ?_, fun q hq => ?_⟩
    · rcases mset_mem hx with rfl | hx
      · exact ⟨hz, e, he, rfl⟩
      · exact h.nz x hx
    · rw [mget_mset]
      by_cases e1 : e = q
      · subst e1
        rw [if_pos rfl]
        simp only [co, if_true, Option.getD_some]
        omega
      · rw [if_neg (fun e2 => e1 (pad_inj (he.trans hq.symm) e2)), h.val q hq]
        simp [co, e1]
theorem MapR.len8 {n : Nat} {es l : List (List Int × Int)} (h : MapR n es l) (hn : n ≤ 8) : mapLen 8 es := fun x hx => by
  obtain ⟨_, e, he, e2⟩ := h.nz x hx
  rw [e2]
  exact pad_length (by omega)
/-- What a term of the map comes to. -/
def unpadT (n : Nat) (x : List Int × Int) : List Int × Int := (x.1.take n, x.2)
theorem unpad_co {n : Nat} {es l : List (List Int × Int)} (h : MapR n es l) (hl : ∀ x ∈ l, x.1.length = n) : ∀ q, co q (es.map (unpadT n)) = co q l := by
  intro q
  by_cases hq : q.length = n
  · rw [← h.val q hq]
    have : ∀ (es : List (List Int × Int)), (es.map (·.1)).Nodup → (∀ x ∈ es, ∃ e, e.length = n ∧ x.1 = pad e) → co q (es.map (unpadT n)) = (mget (pad q) es).getD 0 := by
      intro es
      induction es with
      | nil => intro _ _; rfl
      | cons x es ih =>
        intro hn hp
        simp only [List.map_cons, List.nodup_cons] at hn
        obtain ⟨e, he, e2⟩ := hp x (by simp)
        have ht : (unpadT n x).1 = e := by
          simp only [unpadT]
          rw [e2, ← he]
          exact pad_take
        simp only [List.map_cons, co, mget]
        rw [ih hn.2 fun y hy => hp y (by simp [hy]), ht]
        by_cases e3 : e = q
        · subst e3
          rw [if_pos rfl, if_pos e2, mget_none fun y hy e4 => hn.1 (by rw [e2, ← e4]; exact List.mem_map.2 ⟨y, hy, rfl⟩)]
          simp [unpadT]
        · rw [if_neg e3, if_neg (fun e4 => e3 (pad_inj (he.trans hq.symm) (e2.symm.trans e4)))]
          simp
    exact this es h.nod fun x hx => (h.nz x hx).2
  · rw [co_none q l fun x hx e => hq (e ▸ hl x hx), co_none q _ fun x hx e => hq ?_]
    obtain ⟨y, hy, rfl⟩ := List.mem_map.1 hx
    obtain ⟨_, e', he', e2⟩ := h.nz y hy
    rw [← e]
    simp only [unpadT]
    rw [e2, ← he', pad_take]
/-- **Terms of the map in descending order are the sum's normal form.** -/
theorem unpad_nf {n : Nat} {es l t : List (List Int × Int)} (h : MapR n es l) (hl : ∀ x ∈ l, x.1.length = n) (hp : t.Perm (es.map (unpadT n))) (hd : Desc lexlt t) : t = nf lexlt l := by
  refine nf_unique lexOrd hd (fun x hx => ?_) fun k => by rw [co_perm k hp, unpad_co h hl]
  obtain ⟨y, hy, rfl⟩ := List.mem_map.1 (hp.mem_iff.1 hx)
  exact (h.nz y hy).1

end Go.Proofs.Ytocknokodgnlbaa.Ab
namespace Go.Proofs.Ytocknokodgnlbaa.Ab
open Go
set_option linter.unusedSimpArgs false
set_option linter.unusedVariables false
set_option maxRecDepth 10000
set_option maxHeartbeats 2000000
def DoneOk : Prop := ∀ (n : Nat) (es l : List (List Int × Int)), MapR n es l → (∀ x ∈ l, x.1.length = n) → 1 ≤ n → n ≤ 8 → l.length ≤ 1000000 →
  ACalls Try.prog F.impl_building_done [.pt (0, 0) [] 0] [((0, 0), .bx [D.int n, .mp es])] true (fun outs res => outs = [.bx [D.int n, .mp es]] ∧ res = [.ag (fO (shutF n l).1), .one (D.bool (shutF n l).2)])
theorem pad_add {a b : List Int} (h : a.length = b.length) (k : Int) : addE k (pad a) (pad b) = pad (addE k a b) := by
  unfold pad
  rw [addE_length _ _ _ h, ← h]
  generalize 8 - a.length = m
  induction a generalizing b with
  | nil => cases b with
    | nil =>
      simp only [addE, List.nil_append]
      induction m with
      | zero => rfl
      | succ m ih => simp [List.replicate_succ, addE, ih]
    | cons y b => simp at h
  | cons x a ih => cases b with
    | nil => simp at h
    | cons y b => simp [addE, ih (by simpa using h)]
def absE (l : List (List Int × Int)) : Nat := (l.map fun x => x.2.natAbs).sum
theorem co_abs (k : List Int) : ∀ l : List (List Int × Int), (co k l).natAbs ≤ absE l
  | [] => by simp [co]
  | x :: l => by
    have := co_abs k l
    simp only [co, absE, List.map_cons, List.sum_cons] at this ⊢
    split <;> omega
theorem nf_perm {l r : List (List Int × Int)} (h : l.Perm r) : nf lexlt l = nf lexlt r :=
  nf_unique lexOrd (nf_desc lexOrd l) (nf_nz l) fun k => by rw [nf_co, co_perm k h]
theorem shutF_perm {l r : List (List Int × Int)} (h : l.Perm r) (v : Int) : shutF v l = shutF v r := by
  unfold shutF
  rw [nf_perm h]
theorem prodL_step {a b : List (List Int × Int)} {i : Nat} (h : i < a.length) : prodL (a.take (i + 1)) b = prodL (a.take i) b ++ b.map fun y => (addE 1 a[i].1 y.1, a[i].2 * y.2) := by
  unfold prodL
  rw [List.take_succ_eq_append_getElem h, List.flatMap_append]
  simp
theorem absB {a i j : Nat} (h : a ≤ (i * 600 + j) * 1000000000000) (hj : j ≤ 600) : a ≤ ((i + 1) * 600) * 1000000000000 :=
  Nat.le_trans h (Nat.mul_le_mul_right _ (by omega))
theorem natAbs_bd {c : Int} (h : -1000000000000 ≤ c ∧ c ≤ 1000000000000) : c.natAbs ≤ 1000000000000 := by omega
theorem pad_bd {e : List Int} (h : ∀ x ∈ e, -20 ≤ x ∧ x ≤ 20) : ∀ x ∈ pad e, -1000000 ≤ x ∧ x ≤ 1000000 := fun x hx => by
  unfold pad at hx
  rcases List.mem_append.1 hx with hx | hx
  · have := h x hx; omega
  · have := List.eq_of_mem_replicate hx; omega
theorem impl_MulLaurents_calls (hDone : DoneOk) (f g : Lau) (hx : f.ts.length < 4611686018427387904) (hxe : ∀ t ∈ f.ts, t.e.length < 4611686018427387904) (hy : g.ts.length < 4611686018427387904) (hye : ∀ t ∈ g.ts, t.e.length < 4611686018427387904) : ACalls Try.prog F.impl_MulLaurents [aF f, aF g] [] true (fun outs res => outs = [] ∧ WkRs res [.ag (fO (mulF f g).1), .one (D.bool (mulF f g).2)]) := by
  refine ACalls.of_body (C := C.impl_MulLaurents) (n := Try.f12.ntmps) tabT folT Try.func12 rfl (by kernel_rfl) rfl (Nat.le_of_ble_eq_true rfl) (by decide) (by kernel_rfl) (by kernel_rfl) rfl (by simp) (by simp) ?_
  simp only [Try.f12]
  refine wseq ?_
  refine wreg fun K hK => ?_
  simp [C.impl_MulLaurents, fS]
  refine hK _ ?_; clear hK K
  show AWp _ _ _ _ _
  refine wseq ?_
  refine wseq ?_
  refine wregI ([0, 1, 2] ++ ([3])) rfl fun K hK => ?_
  refine opsI_seg fun L hL => ?_
  simp [C.impl_MulLaurents, fS]
  refine wcall1 (impl_bothOk_calls f g hx hxe hy hye) (by simp) (by simp) ?_
  simp [C.impl_MulLaurents, fS]
  refine hL _ ?_; clear hL L
  refine opsI_end fun L hL => ?_
  simp [C.impl_MulLaurents, fS]
  refine hL _ ?_; clear hL L
  simp [C.impl_MulLaurents, fS]
  refine hK _ ?_; clear hK K
  show AWp _ _ _ _ _
  refine wcond _ rfl (fun hc1 => ?_) (fun hc1 => ?_)
  · have hr : ¬ (Right f ∧ Right g ∧ f.v = g.v) := by
      intro ⟨q1, q2, q3⟩
      simp [q1, q2, q3] at hc1
    have hm : mulF f g = (zeroF, false) := if_neg hr
    refine wseq ?_
    refine wreg fun K hK => ?_
    simp [C.impl_MulLaurents, fS]
    refine hK _ ?_; clear hK K
    show AWp _ _ _ _ _
    refine wret ?_
    simp [C.impl_MulLaurents, fS, hm, fO, zeroF, rows]
  · have hr : Right f ∧ Right g ∧ f.v = g.v := by simpa using hc1
    obtain ⟨hf, hg, hfg⟩ := hr
    have hv := hf.1
    obtain ⟨n, hn⟩ : ∃ n : Nat, f.v = n := ⟨f.v.toNat, by omega⟩
    have hn2 : g.v = n := by omega
    have hn8 : n ≤ 8 := by omega
    have hfl := hf.2.1
    have hgl := hg.2.1
    have hm : mulF f g = shutF n (prodL (f.ts.map pr) (g.ts.map pr)) := by
      unfold mulF
      rw [if_pos ⟨hf, hg, hfg⟩, hn]
    refine wskip ?_
    show AWp _ _ _ _ _
    refine wseq ?_
    refine wregI ([0, 1, 2] ++ ([3])) rfl fun K hK => ?_
    refine opsI_seg fun L hL => ?_
    simp [C.impl_MulLaurents, fS, hn]
    refine wcall1 (impl_newBuilding_calls n) (by simp) (by simp) ?_
    simp [C.impl_MulLaurents, fS, hn]
    refine hL _ ?_; clear hL L
    refine opsI_end fun L hL => ?_
    simp [C.impl_MulLaurents, fS, hn]
    refine hL _ ?_; clear hL L
    simp [C.impl_MulLaurents, fS, hn]
    refine hK _ ?_; clear hK K
    show AWp _ _ _ _ _
    refine wseq ?_
    refine wseq ?_
    refine wreg fun K hK => ?_
    simp [C.impl_MulLaurents, fS]
    refine hK _ ?_; clear hK K
    show AWp _ _ _ _ _
    refine wblock ?_
    refine wloop (fun x : Nat × List (List Int × Int) × List (List Int × Int) => ⟨ofL [(3, .pt (3, 0) [] 0), (4, .pt (4, 0) [] 0), (6, .pt (6, 0) [] 0), (20, .d (.sh 2 f.ts.length (rows tS f.ts))), (21, .int f.ts.length), (22, .int x.1)], ofRO [((3, 0), some (.bx (fS g))), ((4, 0), some (.bx [D.int 0, .v (.slice none 0 0)])), ((6, 0), some (.bx [D.int n, .mp x.2.1]))]⟩) (fun x => x.1 ≤ f.ts.length ∧ MapR n x.2.1 x.2.2 ∧ x.2.2.Perm (prodL ((f.ts.map pr).take x.1) (g.ts.map pr)) ∧ x.2.2.length ≤ x.1 * 600 ∧ absE x.2.2 ≤ (x.1 * 600) * 1000000000000) (fun x => f.ts.length - x.1) (0, [], []) (by simp [C.impl_MulLaurents, fS]) ⟨by simp, MapR.nil n, by simp [prodL], by simp, by simp [absE]⟩ ?_
    intro x1 hx1 R1 hR1
    obtain ⟨i, es, l⟩ := x1
    obtain ⟨hi, hM, hP, hL, hA⟩ := hx1
    dsimp only at hi hM hP hL hA ⊢
    refine wseq ?_
    refine wreg fun K hK => ?_
    simp [C.impl_MulLaurents, fS]
    refine hK _ ?_; clear hK K
    show AWp _ _ _ _ _
    refine wseq ?_
    refine wcond _ rfl (fun hc2 => ?_) (fun hc2 => ?_)
    · have hif : i < f.ts.length := by have := d_t hc2; omega
      have hT := right_dig hf hn _ (List.getElem_mem hif)
      refine wskip ?_
      show AWp _ _ _ _ _
      refine wseq ?_
      refine wblock ?_
      refine wseq ?_
      refine wreg fun K hK => ?_
      simp [C.impl_MulLaurents, fS, hif, tS_0 hif, tS_1 hif]
      refine hK _ ?_; clear hK K
      show AWp _ _ _ _ _
      refine wseq ?_
      refine wreg fun K hK => ?_
      simp [C.impl_MulLaurents, fS]
      refine hK _ ?_; clear hK K
      show AWp _ _ _ _ _
      refine wblock ?_
      refine wloop (fun x : Nat × List (List Int × Int) × List (List Int × Int) => ⟨ofL [(3, .pt (3, 0) [] 0), (4, .pt (4, 0) [] 0), (6, .pt (6, 0) [] 0), (8, .pt (8, 0) [] 0), (20, .d (.sh 2 f.ts.length (rows tS f.ts))), (21, .int f.ts.length), (22, .int i), (27, .d (.sh 2 g.ts.length (rows tS g.ts))), (28, .int g.ts.length), (29, .int x.1)], ofRO [((3, 0), some (.bx (fS g))), ((4, 0), some (.bx [D.int 0, .v (.slice none 0 0)])), ((6, 0), some (.bx [D.int n, .mp x.2.1])), ((8, 0), some (.bx (tS f.ts[i])))]⟩) (fun x => x.1 ≤ g.ts.length ∧ MapR n x.2.1 x.2.2 ∧ x.2.2.Perm (prodL ((f.ts.map pr).take i) (g.ts.map pr) ++ ((g.ts.map pr).take x.1).map fun y => (addE 1 f.ts[i].e y.1, f.ts[i].c * y.2)) ∧ x.2.2.length ≤ i * 600 + x.1 ∧ absE x.2.2 ≤ (i * 600 + x.1) * 1000000000000) (fun x => g.ts.length - x.1) (0, es, l) (by simp [C.impl_MulLaurents, fS, tS]) ⟨by simp, hM, by simpa using hP, by dsimp only; omega, by dsimp only; omega⟩ ?_
      intro x2 hx2 R2 hR2
      obtain ⟨j, es2, l2⟩ := x2
      obtain ⟨hj, hM2, hP2, hL2, hA2⟩ := hx2
      dsimp only at hj hM2 hP2 hL2 hA2 ⊢
      refine wseq ?_
      refine wreg fun K hK => ?_
      simp [C.impl_MulLaurents, fS]
      refine hK _ ?_; clear hK K
      show AWp _ _ _ _ _
      refine wseq ?_
      refine wcond _ rfl (fun hc3 => ?_) (fun hc3 => ?_)
      · have hjg : j < g.ts.length := by have := d_t hc3; omega
        have hU := right_dig hg hn2 _ (List.getElem_mem hjg)
        refine wskip ?_
        show AWp _ _ _ _ _
        refine wseq ?_
        refine wblock ?_
        refine wseq ?_
        refine wreg fun K hK => ?_
        simp [C.impl_MulLaurents, fS, hjg, tS_0 hjg, tS_1 hjg]
        refine hK _ ?_; clear hK K
        show AWp _ _ _ _ _
        obtain ⟨a0, a1, a2, a3, a4, a5, a6, a7, hpa⟩ := eight (pad_length (e := f.ts[i].e) (by omega))
        obtain ⟨b0, b1, b2, b3, b4, b5, b6, b7, hpb⟩ := eight (pad_length (e := g.ts[j].e) (by omega))
        have hba := pad_bd hT.2.2.1
        have hbb := pad_bd hU.2.2.1
        rw [hpa] at hba
        rw [hpb] at hbb
        have hadd : [a0 + b0, a1 + b1, a2 + b2, a3 + b3, a4 + b4, a5 + b5, a6 + b6, a7 + b7] = pad (addE 1 f.ts[i].e g.ts[j].e) := by
          rw [← pad_add (by omega), hpa, hpb]
          simp [addE]
        have hel : (addE 1 f.ts[i].e g.ts[j].e).length = n := by rw [addE_length _ _ _ (by omega)]; omega
        have hcc := mul_bd hT.2.2.2 hU.2.2.2
        have hval := hM2.val _ hel
        have hco := co_abs (addE 1 f.ts[i].e g.ts[j].e) l2
        refine wdrawI [(true, 0), (true, 1), (true, 2), (true, 4), (true, 5), (true, 8), (true, 9), (true, 10), (true, 11), (true, 12), (false, 3), (false, 6), (false, 7), (false, 13)] ⟨by kernel_rfl, by kernel_rfl⟩ ([0, 1, 2, 4, 5, 8, 9, 10, 11, 12, 3] ++ ([6] ++ ([7] ++ ([13] ++ ([]))))) rfl fun K hK => ?_
        refine opsI_seg fun L hL => ?_
        simp [C.impl_MulLaurents, fS, tS, wrapOk (x := f.ts[i].c * g.ts[j].c) (by omega) (by omega)]
        refine wcall1 (impl_keyOf_calls f.ts[i].e (by omega) a0 a1 a2 a3 a4 a5 a6 a7 hpa) (by simp) (by simp) ?_
        simp [C.impl_MulLaurents, fS, tS, wrapOk (x := f.ts[i].c * g.ts[j].c) (by omega) (by omega)]
        refine hL _ ?_; clear hL L
        refine opsI_seg fun L hL => ?_
        simp [C.impl_MulLaurents, fS, tS, wrapOk (x := f.ts[i].c * g.ts[j].c) (by omega) (by omega)]
        refine wcall1 (impl_keyOf_calls g.ts[j].e (by omega) b0 b1 b2 b3 b4 b5 b6 b7 hpb) (by simp) (by simp) ?_
        simp [C.impl_MulLaurents, fS, tS, wrapOk (x := f.ts[i].c * g.ts[j].c) (by omega) (by omega)]
        refine hL _ ?_; clear hL L
        refine opsI_seg fun L hL => ?_
        simp [C.impl_MulLaurents, fS, tS, wrapOk (x := f.ts[i].c * g.ts[j].c) (by omega) (by omega)]
        refine wcall1 (impl_plusExp_calls 1 a0 a1 a2 a3 a4 a5 a6 a7 b0 b1 b2 b3 b4 b5 b6 b7 (by omega) hba hbb) (by simp) (by simp) ?_
        simp [C.impl_MulLaurents, fS, tS, wrapOk (x := f.ts[i].c * g.ts[j].c) (by omega) (by omega)]
        refine hL _ ?_; clear hL L
        refine opsI_seg fun L hL => ?_
        simp [C.impl_MulLaurents, fS, tS, wrapOk (x := f.ts[i].c * g.ts[j].c) (by omega) (by omega)]
        refine wcall1 (impl_building_add_calls n (f.ts[i].c * g.ts[j].c) es2 (a0 + 1 * b0) (a1 + 1 * b1) (a2 + 1 * b2) (a3 + 1 * b3) (a4 + 1 * b4) (a5 + 1 * b5) (a6 + 1 * b6) (a7 + 1 * b7) (hM2.len8 hn8) (by simp only [Int.one_mul]; rw [hadd, hval]; omega)) (by simp) (by simp) ?_
        simp [C.impl_MulLaurents, fS, tS, wrapOk (x := f.ts[i].c * g.ts[j].c) (by omega) (by omega)]
        refine hL _ ?_; clear hL L
        refine opsI_end fun L hL => ?_
        simp only [AOpsI]
        refine hL _ ?_; clear hL L
        simp [C.impl_MulLaurents, fS, tS, wrapOk (x := f.ts[i].c * g.ts[j].c) (by omega) (by omega)]
        rw [hadd]
        refine hK _ ?_; clear hK K
        show AWp _ _ _ _ _
        refine wreg fun K hK => ?_
        simp [C.impl_MulLaurents, fS, wrap_succ (show j < 4611686018427387904 by omega)]
        refine hK _ ?_; clear hK K
        simp [C.impl_MulLaurents, fS]
        refine hR2 (j + 1, _, (addE 1 f.ts[i].e g.ts[j].e, f.ts[i].c * g.ts[j].c) :: l2) ⟨hjg, hM2.add hel _, ?_, by dsimp only [List.length_cons]; omega, ?_⟩ (by dsimp only; omega)
        · dsimp only
          rw [List.take_succ_eq_append_getElem (by simpa using hjg), List.map_append, ← List.append_assoc]
          refine (List.Perm.cons _ hP2).trans ?_
          simp only [List.getElem_map, List.map_cons, List.map_nil, pr]
          exact (List.perm_append_singleton _ _).symm
        · have := natAbs_bd hcc
          simp only [absE, List.map_cons, List.sum_cons] at hA2 ⊢
          omega
      · have hjg : j = g.ts.length := by have := d_f hc3; omega
        refine wexit ?_
        show AWp _ _ _ _ _
        refine wreg fun K hK => ?_
        simp [C.impl_MulLaurents, fS, wrap_succ (show i < 4611686018427387904 by omega)]
        refine hK _ ?_; clear hK K
        simp [C.impl_MulLaurents, fS]
        refine hR1 (i + 1, es2, l2) ⟨hif, hM2, ?_, by dsimp only; omega, absB hA2 (by omega)⟩ (by dsimp only; omega)
        dsimp only
        rw [prodL_step (by simpa using hif)]
        refine hP2.trans (List.Perm.of_eq ?_)
        rw [List.take_of_length_le (l := g.ts.map pr) (by simp; omega)]
        simp [pr]
    · have hif : i = f.ts.length := by have := d_f hc2; omega
      have hall : l.Perm (prodL (f.ts.map pr) (g.ts.map pr)) := by
        rw [List.take_of_length_le (l := f.ts.map pr) (by simp; omega)] at hP
        exact hP
      have hlen : ∀ x ∈ l, x.1.length = n := fun x hx => by
        have := hall.subset hx
        simp only [prodL, List.mem_flatMap, List.mem_map] at this
        obtain ⟨a, ⟨t, ht, rfl⟩, b, ⟨u, hu, rfl⟩, rfl⟩ := this
        have h1 := right_dig hf hn t ht
        have h2 := right_dig hg hn2 u hu
        simp only [pr]
        rw [addE_length _ _ _ (by omega)]
        omega
      have hs := shutF_perm hall n
      refine wexit ?_
      show AWp _ _ _ _ _
      refine wseq ?_
      refine wregI ([0, 1] ++ ([2, 3, 4, 5])) rfl fun K hK => ?_
      refine opsI_seg fun L hL => ?_
      simp [C.impl_MulLaurents, fS, fO]
      refine wcall1 (hDone n es l hM hlen (by omega) hn8 (by omega)) (by simp) (by simp) ?_
      simp [C.impl_MulLaurents, fS, fO]
      refine hL _ ?_; clear hL L
      refine opsI_end fun L hL => ?_
      simp [C.impl_MulLaurents, fS, fO]
      refine hL _ ?_; clear hL L
      simp [C.impl_MulLaurents, fS, fO]
      refine hK _ ?_; clear hK K
      show AWp _ _ _ _ _
      refine wret ?_
      simp [C.impl_MulLaurents, fS, hm, ← hs, fO]
theorem iMul_calls (hDone : DoneOk) : MulOk := fun f g hx hxe hy hye => (impl_MulLaurents_calls hDone f g hx hxe hy hye).weak1

end Go.Proofs.Ytocknokodgnlbaa.Ab
namespace Go.Proofs.Ytocknokodgnlbaa.Ab
open Go
set_option linter.unusedSimpArgs false
set_option linter.unusedVariables false
set_option maxRecDepth 10000
set_option maxHeartbeats 2000000
end Go.Proofs.Ytocknokodgnlbaa.Ab
namespace Go.Proofs.Ytocknokodgnlbaa.Ab
open Go
set_option linter.unusedSimpArgs false
set_option linter.unusedVariables false
set_option maxRecDepth 10000
set_option maxHeartbeats 1000000
def SmF (f : Lau) : Prop := f.ts.length < 4611686018427387904 ∧ ∀ t ∈ f.ts, t.e.length < 4611686018427387904
end Go.Proofs.Ytocknokodgnlbaa.Ab
namespace Go.Proofs.Ytocknokodgnlbaa.Ab
open Go
set_option linter.unusedSimpArgs false
set_option linter.unusedVariables false
set_option maxRecDepth 10000
set_option maxHeartbeats 2000000
def unitL (n i : Nat) : List Int := (List.replicate n 0).set i 1
noncomputable def monoF (e : List Int) : Lau := if Right ⟨e.length, [⟨e, 1⟩]⟩ then ⟨e.length, [⟨e, 1⟩]⟩ else zeroF
noncomputable def varsL (r : Nat) : List Lau := (List.range r).map fun i => monoF (unitL r i)
abbrev m0 : Mat := ⟨2, 2, [0, 1, -1, 0]⟩
noncomputable abbrev z0 : Ses := ⟨m0, [], ⟨m0, varsL 2⟩⟩
end Go.Proofs.Ytocknokodgnlbaa.Ab
namespace Go.Proofs.Ytocknokodgnlbaa.Ab
open Go
set_option linter.unusedSimpArgs false
set_option linter.unusedVariables false
set_option maxRecDepth 10000
set_option maxHeartbeats 2000000
def minF (x : Int) (ts : List Trm) (i : Nat) : Int := ts.foldl (fun m t => min m (t.e.getD i 0)) x
def lowA (x : Nat → Int) (ts : List Trm) (n : Nat) : List Int := (List.range n).map fun i => minF (x i) ts i
@[simp] theorem lowA_length (x : Nat → Int) (ts : List Trm) (n : Nat) : (lowA x ts n).length = n := by simp [lowA]
def headE (ts : List Trm) (i : Nat) : Int := match ts with | [] => 0 | t :: _ => t.e.getD i 0
def lowL (ts : List Trm) (n : Nat) : List Int := lowA (headE ts) ts n
def denL (f : Lau) : List Int := (lowL f.ts f.v.toNat).map fun x => -x
@[simp] theorem denL_length (f : Lau) : (denL f).length = f.v.toNat := by simp [denL, lowL]
theorem right_he {f : Lau} {n : Nat} (h : Right f) (hn : f.v = n) : ∀ t ∈ f.ts, t.e.length = n ∧ ∀ x ∈ t.e, -20 ≤ x ∧ x ≤ 20 := fun t ht => by
  have := h.2.2.1 t ht
  exact ⟨by have := this.1; omega, this.2.2.2⟩
end Go.Proofs.Ytocknokodgnlbaa.Ab
namespace Go.Proofs.Ytocknokodgnlbaa.Ab
open Go
set_option linter.unusedSimpArgs false
set_option linter.unusedVariables false
/-! ### Greatest and least exponents -/
/-! ### Greatest exponents of terms -/
def maxF (x : Int) (ts : List Trm) (i : Nat) : Int := ts.foldl (fun m t => max m (t.e.getD i 0)) x
def highA (x : Nat → Int) (ts : List Trm) (n : Nat) : List Int := (List.range n).map fun i => maxF (x i) ts i
@[simp] theorem highA_length (x : Nat → Int) (ts : List Trm) (n : Nat) : (highA x ts n).length = n := by simp [highA]
def highL (ts : List Trm) (n : Nat) : List Int := highA (headE ts) ts n
/-! ### The two divisions -/
def inBox (f g : Lau) (n : Nat) (e : List Int) : Prop := ∀ i, i < n → (lowL f.ts n).getD i 0 - (lowL g.ts n).getD i 0 ≤ e.getD i 0 ∧ e.getD i 0 ≤ (highL f.ts n).getD i 0 - (highL g.ts n).getD i 0
instance (f g : Lau) (n : Nat) (e : List Int) : Decidable (inBox f g n e) := Nat.decidableBallLT n _
noncomputable def endF (v : Int) : Option (List (List Int × Int)) → Lau × Bool
  | some O => if Right ⟨v, O.map tm⟩ then (⟨v, O.map tm⟩, true) else (zeroF, false)
  | none => (zeroF, false)
theorem pr_desc {f : Lau} (h : Right f) : Desc lexlt (f.ts.map pr) := by
  unfold Desc
  rw [List.pairwise_map]
  exact h.2.2.2
theorem pr_nz {f : Lau} (h : Right f) : Nz (f.ts.map pr) := fun x hx => by
  obtain ⟨t, ht, rfl⟩ := List.mem_map.1 hx
  exact (h.2.2.1 t ht).2.1
end Go.Proofs.Ytocknokodgnlbaa.Ab
namespace Go.Proofs.Ytocknokodgnlbaa.Ab
open Go
set_option linter.unusedSimpArgs false
set_option linter.unusedVariables false
end Go.Proofs.Ytocknokodgnlbaa.Ab
namespace Go.Proofs.Ytocknokodgnlbaa.Ab
open Go
set_option linter.unusedSimpArgs false
set_option linter.unusedVariables false
set_option maxRecDepth 10000
set_option maxHeartbeats 2000000
@[simp] theorem lowL_length (ts : List Trm) (n : Nat) : (lowL ts n).length = n := by simp [lowL]
@[simp] theorem highL_length (ts : List Trm) (n : Nat) : (highL ts n).length = n := by simp [highL]
theorem endF_some (v : Int) (O : List (List Int × Int)) : endF v (some O) = ((if Right ⟨v, O.map tm⟩ then ⟨v, O.map tm⟩ else zeroF), decide (Right ⟨v, O.map tm⟩)) := by
  simp only [endF]
  split <;> simp_all
theorem shut_coded (O : List (List Int × Int)) (n : Nat) (hl : O.length ≤ 1000000) (he : ∀ x ∈ O, Dig x.1 ∧ x.1.length = n) (hv : n ≤ 8) : ACalls Try.prog F.spec_l2Shut [.d (.sh 2 O.length (rows gM (O.map kc))), .int n] [] true (fun outs res => outs = [] ∧ res = [.ag (fO (endF n (some O)).1), .one (D.bool (endF n (some O)).2)]) := by
  have := l2Shut_calls (O.map tm) n (by simpa using hl) (fun t ht => by
    obtain ⟨x, hx, rfl⟩ := List.mem_map.1 ht
    exact he x hx) hv
  simp only [List.length_map, List.map_map, kt_tm] at this
  rw [endF_some]
  exact this
end Go.Proofs.Ytocknokodgnlbaa.Ab
namespace Go.Proofs.Ytocknokodgnlbaa.Ab
open Go Go.Proofs
def sortTerm_ren : Go.Shelf.Ren := ⟨fun | 6 => 117 | 15 => 151 | 14 => 150 | 28 => 163 | 29 => 164 | 20 => 155 | 21 => 156 | 22 => 157 | 23 => 158 | 24 => 159 | 25 => 160 | 26 => 161 | 27 => 162 | 46 => 173 | 47 => 174 | 48 => 175 | 49 => 176 | 50 => 177 | 57 => 181 | n => n, fun | 22 => 24 | 24 => 78 | 25 => 139 | 3 => 3 | 39 => 161 | 0 => 0 | 53 => 175 | 55 => 177 | 4 => 4 | 46 => 168 | 45 => 167 | 50 => 172 | 5 => 5 | 9 => 9 | 66 => 183 | 70 => 187 | 76 => 191 | 77 => 192 | n => n, fun | n => n⟩
theorem sortTerm : Go.Proofs.SlLaysF0.n6 Try.prog sortTerm_ren := {
  mixed := by kernel_rfl,
  f6 := ⟨Try.f117.name, by decide, Try.func117.trans (congrArg some (by kernel_rfl))⟩,
  f14 := ⟨Try.f150.name, by decide, Try.func150.trans (congrArg some (by kernel_rfl))⟩,
  f15 := Try.func151.trans (congrArg some (by kernel_rfl)),
  f20 := ⟨Try.f155.name, by decide, Try.func155.trans (congrArg some (by kernel_rfl))⟩,
  f21 := ⟨Try.f156.name, by decide, Try.func156.trans (congrArg some (by kernel_rfl))⟩,
  f22 := ⟨Try.f157.name, by decide, Try.func157.trans (congrArg some (by kernel_rfl))⟩,
  f23 := ⟨Try.f158.name, by decide, Try.func158.trans (congrArg some (by kernel_rfl))⟩,
  f24 := ⟨Try.f159.name, by decide, Try.func159.trans (congrArg some (by kernel_rfl))⟩,
  f25 := ⟨Try.f160.name, by decide, Try.func160.trans (congrArg some (by kernel_rfl))⟩,
  f26 := ⟨Try.f161.name, by decide, Try.func161.trans (congrArg some (by kernel_rfl))⟩,
  f27 := ⟨Try.f162.name, by decide, Try.func162.trans (congrArg some (by kernel_rfl))⟩,
  f28 := Try.func163.trans (congrArg some (by kernel_rfl)),
  f29 := Try.func164.trans (congrArg some (by kernel_rfl)),
  f46 := ⟨Try.f173.name, by decide, Try.func173.trans (congrArg some (by kernel_rfl))⟩,
  f47 := Try.func174.trans (congrArg some (by kernel_rfl)),
  f48 := Try.func175.trans (congrArg some (by kernel_rfl)),
  f49 := ⟨Try.f176.name, by decide, Try.func176.trans (congrArg some (by kernel_rfl))⟩,
  f50 := ⟨Try.f177.name, by decide, Try.func177.trans (congrArg some (by kernel_rfl))⟩,
  f57 := ⟨Try.f181.name, by decide, Try.func181.trans (congrArg some (by kernel_rfl))⟩,
  t0 := Try.underlying0,
  a0 := Try.isAgg0,
  z0 := Try.sizeOf0,
  v0 := Try.zeroValue0,
  t3 := Try.underlying3,
  a3 := Try.isAgg3,
  z3 := Try.sizeOf3,
  v3 := Try.zeroValue3,
  t4 := Try.underlying4,
  a4 := Try.isAgg4,
  z4 := Try.sizeOf4,
  v4 := Try.zeroValue4,
  t5 := Try.underlying5,
  a5 := Try.isAgg5,
  z5 := Try.sizeOf5,
  v5 := Try.zeroValue5,
  t9 := Try.underlying9,
  a9 := Try.isAgg9,
  z9 := Try.sizeOf9,
  v9 := Try.zeroValue9,
  t22 := Try.underlying24,
  a22 := Try.isAgg24,
  z22 := Try.sizeOf24,
  v22 := Try.zeroValue24,
  t25 := Try.underlying139,
  a25 := Try.isAgg139,
  z25 := Try.sizeOf139,
  v25 := Try.zeroValue139,
  t39 := Try.underlying161,
  a39 := Try.isAgg161,
  z39 := Try.sizeOf161,
  v39 := Try.zeroValue161,
  t45 := Try.underlying167,
  a45 := Try.isAgg167,
  z45 := Try.sizeOf167,
  v45 := Try.zeroValue167,
  t46 := Try.underlying168,
  a46 := Try.isAgg168,
  z46 := Try.sizeOf168,
  v46 := Try.zeroValue168,
  t50 := Try.underlying172,
  a50 := Try.isAgg172,
  z50 := Try.sizeOf172,
  v50 := Try.zeroValue172,
  t53 := Try.underlying175,
  a53 := Try.isAgg175,
  z53 := Try.sizeOf175,
  v53 := Try.zeroValue175,
  t55 := Try.underlying177,
  a55 := Try.isAgg177,
  z55 := Try.sizeOf177,
  v55 := Try.zeroValue177,
  t66 := Try.underlying183,
  a66 := Try.isAgg183,
  z66 := Try.sizeOf183,
  v66 := Try.zeroValue183,
  t70 := Try.underlying187,
  a70 := Try.isAgg187,
  z70 := Try.sizeOf187,
  v70 := Try.zeroValue187,
  t76 := Try.underlying191,
  a76 := Try.isAgg191,
  z76 := Try.sizeOf191,
  v76 := Try.zeroValue191,
  t77 := Try.underlying192,
  a77 := Try.isAgg192,
  z77 := Try.sizeOf192,
  v77 := Try.zeroValue192 }
theorem sortTerm_t24 : sortTerm_ren.t 24 = 78 := by kernel_rfl
theorem sortTerm_f6 : sortTerm_ren.f 6 = 117 := by kernel_rfl
theorem sortTerm_agg : ∀ w, (isAgg (sortTerm_ren.t 24)).run Try.prog w = .ok true w := fun w => by rw [sortTerm_t24]; exact Try.isAgg78 w
theorem sortTerm_size : ∀ w, (Go.sizeOf (sortTerm_ren.t 24)).run Try.prog w = .ok 2 w := fun w => by rw [sortTerm_t24]; exact Try.sizeOf78 w
end Go.Proofs.Ytocknokodgnlbaa.Ab
namespace Go.Proofs.Ytocknokodgnlbaa.Ab
open Go
set_option linter.unusedSimpArgs false
set_option linter.unusedVariables false
set_option linter.unusedSectionVars false

/-- What a function that sorts promises over worlds. -/
def SfOk (P : Program) (sf k : Nat) : Prop :=
  (∀ (p : Option Addr) (cap : Nat) (fv : Value) (w : World), Calls P sf #[.slice p 0 cap, fv] w fun e w' => e = .returned (.tuple #[]) ∧ w' = w) ∧
  ∀ (α : Type) [Inhabited α] (enc : α → List Value) (hk : ∀ x, (enc x).length = k) (h1 : ∀ x, ∀ v ∈ enc x, v.oneCell' = true) (cf : α → α → Int) (hO : Go.Sort.SWO (ltOf cf)) (g : Nat) (blk off cap : Nat) (d : Array α) (w : World)
    (eg : ∀ args w, (callFunc g args).run P w = .ok (.enter g args) w) (hcmp : CmpLays P g #[] enc k cf blk off d.size w) (hH : Go.Sort.HoldsK enc k w blk off d) (hblk : blk < w.heap.size) (hsz : d.size < 4611686018427387904),
    Calls P sf #[.slice (some ⟨blk, off, none⟩) d.size cap, .func (.func g) #[] #[]] w fun e w' =>
      e = .returned (.tuple #[]) ∧ ∃ d' n os, Go.Sort.PermIn 0 d.size d d' ∧ Go.Sort.SortedIn (ltOf cf) 0 d.size d' ∧ w' = sortWorldK enc k w blk off n d' os

/-! ### Elements -/
structure El (τ : Type) where
  us : List Value
  fp : List Nat
  t : τ
section
variable {τ : Type} {f : τ → List D} {k : Nat} {w : World} {ok : Nat → Prop}
theorem rows_els (hk : ∀ t, (f t).length = k) : ∀ (ts : List τ) (us : List Value) (fp : List Nat), OwVs w ok (rows f ts) us fp →
    ∃ els : List (El τ), els.map (·.t) = ts ∧ us = els.flatMap (·.us) ∧ fp = els.flatMap (·.fp) ∧ ∀ x ∈ els, OwVs w ok (f x.t) x.us x.fp
  | [], us, fp, h => by
    simp only [rows, OwVs] at h
    exact ⟨[], rfl, by simp [h.1], by simp [h.2], by simp⟩
  | t :: ts, us, fp, h => by
    have hl := OwVs_length h
    obtain ⟨f1, f2, e, h1, h2⟩ := OwVs_split k h
    have e1 : (rows f (t :: ts)).take k = f t := by
      simp only [rows]
      rw [List.take_append_of_le_length (by rw [hk]; exact Nat.le_refl _), List.take_of_length_le (by rw [hk]; exact Nat.le_refl _)]
    have e2 : (rows f (t :: ts)).drop k = rows f ts := by
      simp only [rows]
      rw [← hk t, List.drop_left]
    rw [e1] at h1
    rw [e2] at h2
    obtain ⟨els, g1, g2, g3, g4⟩ := rows_els hk ts _ _ h2
    refine ⟨⟨us.take k, f1, t⟩ :: els, by simp [g1], ?_, ?_, fun x hx => ?_⟩
    · simp only [List.flatMap_cons]
      rw [← g2, List.take_append_drop]
    · simp only [List.flatMap_cons]
      rw [← g3, e]
    · rcases List.mem_cons.1 hx with rfl | hx
      · exact h1
      · exact g4 x hx
theorem els_rows : ∀ (els : List (El τ)), (∀ x ∈ els, OwVs w ok (f x.t) x.us x.fp) → OwVs w ok (rows f (els.map (·.t))) (els.flatMap (·.us)) (els.flatMap (·.fp))
  | [], _ => by simp [rows, OwVs]
  | x :: els, h => by
    simp only [List.map_cons, rows, List.flatMap_cons]
    exact OwVs_append (h x (by simp)) (els_rows els fun y hy => h y (by simp [hy]))
end
theorem flat_get {α β : Type} {g : α → List β} {k : Nat} (hk : ∀ x, (g x).length = k) : ∀ (l : List α) (j : Nat) (h : j / k < l.length) (h0 : 0 < k), (l.flatMap g)[j]? = (g (l[j / k]'h))[j % k]?
  | [], j, h, _ => by simp at h
  | x :: l, j, h, h0 => by
    simp only [List.flatMap_cons]
    rcases Nat.lt_or_ge j k with hj | hj
    · rw [List.getElem?_append_left (by rw [hk]; exact hj)]
      simp only [Nat.div_eq_of_lt hj, Nat.mod_eq_of_lt hj, List.getElem_cons_zero]
    · rw [List.getElem?_append_right (by rw [hk]; exact hj), hk]
      obtain ⟨m, rfl⟩ : ∃ m, j = m + k := ⟨j - k, by omega⟩
      simp only [Nat.add_sub_cancel, Nat.add_div_right _ h0, Nat.add_mod_right, Nat.succ_eq_add_one, List.getElem_cons_succ]
      exact flat_get hk l m (by rw [Nat.add_div_right _ h0] at h; simpa using h) h0
theorem flat_len {α β : Type} {g : α → List β} {k : Nat} (hk : ∀ x, (g x).length = k) : ∀ l : List α, (l.flatMap g).length = l.length * k
  | [] => by simp
  | x :: l => by simp only [List.flatMap_cons, List.length_append, hk, flat_len hk l, List.length_cons, Nat.add_mul, Nat.one_mul]; omega
theorem flatK_get {α : Type} [Inhabited α] {enc : α → List Value} {k : Nat} (hk : ∀ x, (enc x).length = k) (d : Array α) (j : Nat) (h : j < d.size * k) : (d.toList.flatMap enc)[j]? = some ((Go.Sort.flatK enc k d)[j]!) := by
  have h0 : 0 < k := by
    rcases Nat.eq_zero_or_pos k with e | e
    · subst e; simp at h
    · exact e
  have hd : j / k < d.size := (Nat.div_lt_iff_lt_mul h0).2 h
  have hm : j % k < k := Nat.mod_lt _ h0
  rw [flat_get hk d.toList j (by simpa using hd) h0, Go.Sort.get_flatK _ _ _ _ h]
  rw [getElem!_pos d (j / k) hd, List.getElem?_eq_getElem (by rw [hk]; exact hm), getElem!_pos _ (j % k) (by rw [hk]; exact hm)]
  simp

theorem done1 {w w' : World} {ok : Nat → Prop} {ρ : Rn → Value} {fp0 : List Nat} {d : D} {fp' : List Nat} (hns : noSh d) (ho : Ow w' ok d (ρ (0, 0)) fp') (hnd : fp'.Nodup)
    (hb : ∀ b ∈ fp', ¬ ok b ∧ (b ∈ fp0 ∨ w.heap.size ≤ b) ∧ b < w'.heap.size) (hf : Keeps w fp0 w') (hok : ∀ b, ok b → b < w.heap.size) :
    Done w ok ρ fp0 [(0, 0)] true [d] [] (.tuple #[]) w' ok (fun _ => fp') [] := by
  have key : ∀ {r : Rn} {e : D}, ofR ([((0, 0) : Rn)].zip [d]) r = some e → r = (0, 0) ∧ e = d := fun {r e} h => by
    simp only [List.zip_cons_cons, List.zip_nil_left, ofR] at h
    split at h
    · rename_i e2
      simp only [Option.some.injEq] at h
      exact ⟨by first | exact e2 | exact e2.symm, h.symm⟩
    · simp at h
  refine ⟨rfl, fun r e he => ?_, fun r r' e e' hne he he' => ?_, ⟨[], rfl, by simp [OwRs]⟩, List.nodup_nil, by simp, by simp, hf, fun _ h => h, fun b h => ⟨.inl h, Nat.lt_of_lt_of_le (hok b h) hf.size⟩⟩
  · obtain ⟨rfl, rfl⟩ := key he
    exact ⟨by simpa using Ow_nosh _ _ _ hns ho, hnd, hb⟩
  · exact absurd ((key he).1.trans (key he').1.symm) hne

/-! ### A comparison in the midst of a sort -/
theorem ShV_d {w : World} {ok : Nat → Prop} {σ : St} {ρ : Rn → Value} : ∀ {ds : List D} {us : List Value}, ShV w ok ds us → FRL w ok σ ρ (ds.map .d) us
  | [], us, h => by simpa [ShV, FRL] using h
  | d :: ds, us, h => by
    simp only [ShV] at h
    obtain ⟨u, vs, rfl, h1, h2⟩ := h
    simp only [List.map_cons, FRL]
    exact ⟨u, vs, rfl, by simpa [FR] using h1, ShV_d h2⟩
theorem ShV_share {w : World} {ok ok' : Nat → Prop} (hk : ∀ b, ok b → ok' b) : ∀ {ds : List D} {us : List Value} {fp : List Nat}, OwVs w ok ds us fp → (∀ b ∈ fp, ok' b) → ShV w ok' (shareL ds) us
  | [], us, fp, h, _ => by
    simp only [OwVs] at h
    simp [shareL, ShV, h.1]
  | d :: ds, us, fp, h, hf => by
    simp only [OwVs] at h
    obtain ⟨u, vs, f1, f2, rfl, rfl, h1, h2⟩ := h
    simp only [shareL, ShV]
    exact ⟨u, vs, rfl, Sh_share hk d u f1 (fun b hb => hf b (by simp [hb])) h1, ShV_share hk h2 fun b hb => hf b (by simp [hb])⟩
theorem OwVs_world {w w' : World} {ok : Nat → Prop} (hk : ∀ b, ok b → w'.heap[b]? = w.heap[b]?) : ∀ {ds : List D} {us : List Value} {fp : List Nat}, OwVs w ok ds us fp → (∀ b ∈ fp, w'.heap[b]? = w.heap[b]?) → OwVs w' ok ds us fp
  | [], us, fp, h, _ => by simpa only [OwVs] using h
  | d :: ds, us, fp, h, hf => by
    simp only [OwVs] at h ⊢
    obtain ⟨u, vs, f1, f2, rfl, rfl, h1, h2⟩ := h
    exact ⟨u, vs, f1, f2, rfl, rfl, Ow_mono (fun b hb => ⟨hb, hk b hb⟩) _ _ _ (fun b hb => hf b (by simp [hb])) h1, OwVs_world hk h2 fun b hb => hf b (by simp [hb])⟩
theorem grow_of_keeps {w w' : World} (h : Keeps w [] w') : ∃ q os', w' = Go.Sort.grow (w.drewN q) os' := by
  refine ⟨w'.drawn - w.drawn, w'.heap.extract w.heap.size w'.heap.size, ?_⟩
  have hh : w'.heap = w.heap ++ w'.heap.extract w.heap.size w'.heap.size := by
    apply Array.ext_getElem?
    intro i
    rw [Array.getElem?_append]
    split
    · rename_i hi
      exact h.old i hi (by simp)
    · rename_i hi
      rw [Array.getElem?_extract]
      have hs := h.size
      rcases Nat.lt_or_ge i w'.heap.size with h1 | h1
      · rw [if_pos (by omega), show w.heap.size + (i - w.heap.size) = i by omega]
      · rw [if_neg (by omega), Array.getElem?_eq_none (by omega)]
  have h1 := h.os
  have h2 := h.out
  have h3 := h.tape
  have h4 := h.drawn
  cases w' with
  | mk heap tape drawn os output =>
    cases w with
    | mk heap2 tape2 drawn2 os2 output2 =>
      simp only at h1 h2 h3 h4 hh
      subst h1; subst h2; subst h3
      simp only [Go.Sort.grow, World.drewN]
      congr 1
      omega
theorem cmp_call {P : Program} {g : Nat} {cx cy : List D} {c : Int} (h : ACalls P g [.ag ((shareL cx).map .d), .ag ((shareL cy).map .d)] [] true (fun outs res => outs = [] ∧ res = [.one (D.int c)])) {w : World} {ok : Nat → Prop} {ux uy : List Value} {fx fy : List Nat}
    (hx : OwVs w ok cx ux fx) (hy : OwVs w ok cy uy fy) (hfx : ∀ b ∈ fx, b < w.heap.size) (hfy : ∀ b ∈ fy, b < w.heap.size) (hok : ∀ b, ok b → b < w.heap.size) :
    Calls P g (#[.agg ux.toArray, .agg uy.toArray] ++ #[]) w fun e w' => e = .returned (.int .i64 c) ∧ ∃ q os', w' = Go.Sort.grow (w.drewN q) os' := by
  have h1 := ShV_share (ok' := fun b => ok b ∨ b ∈ fx ∨ b ∈ fy) (fun b hb => .inl hb) hx (fun b hb => .inr (.inl hb))
  have h2 := ShV_share (ok' := fun b => ok b ∨ b ∈ fx ∨ b ∈ fy) (fun b hb => .inl hb) hy (fun b hb => .inr (.inr hb))
  have := h.2 w [] (fun b => ok b ∨ b ∈ fx ∨ b ∈ fy) [.agg ux.toArray, .agg uy.toArray] (fun _ => undef) (fun _ => []) rfl ⟨fun r d hd => by simp [ofR] at hd, fun r r' d d' _ hd => by simp [ofR] at hd, fun t => by
    match t with
    | 0 =>
      simp only [argEnv, List.getD_cons_zero, FR]
      exact ⟨_, rfl, ShV_d (by simpa using h1)⟩
    | 1 =>
      simp only [argEnv, List.getD_cons_succ, List.getD_cons_zero, FR]
      exact ⟨_, rfl, ShV_d (by simpa using h2)⟩
    | t + 2 => simp [argEnv, FR], fun b hb => by rcases hb with hb | hb | hb; exact hok b hb; exact hfx b hb; exact hfy b hb, Keeps.refl w []⟩
  have e0 : (#[.agg ux.toArray, .agg uy.toArray] ++ #[] : Array Value) = [Value.agg ux.toArray, Value.agg uy.toArray].toArray := by simp
  rw [e0]
  refine Calls.mono this ?_
  rintro e w' ⟨v, outs, res, ok', φ', fr, rfl, ⟨rfl, rfl⟩, hd⟩
  obtain ⟨vs, e1, e2⟩ := hd.res
  simp only [OwRs, OwRV, if_true] at e2
  obtain ⟨u, us, f1, f2, rfl, _, k1, k2, _⟩ := e2
  subst k2
  simp only [Ow] at k1
  refine ⟨?_, grow_of_keeps hd.frm⟩
  rw [e1, k1.2]
  rfl

/-! ### The sort -/
section
variable {α : Type} [Inhabited α] {enc : α → List Value} {k : Nat} {w : World} {b o : Nat}
theorem srt_other (m : Nat) (d : Array α) (os : Array Obj) {c : Nat} (hc : c ≠ b) (hs : c < w.heap.size) : (sortWorldK enc k w b o m d os).heap[c]? = w.heap[c]? := by
  unfold sortWorldK
  rw [Go.Sort.heap_grow_old _ _ (by simpa [Go.Sort.putRowK] using hs)]
  simp [Go.Sort.putRowK, Go.Sort.putRow, Go.Sort.mapBlock, Array.getElem?_modify, Ne.symm hc]
theorem srt_blk (m : Nat) (d : Array α) (os : Array Obj) {arr : Array Value} {T : Nat} {fr : Nat × Nat} (h : w.heap[b]? = some (.cells arr T fr)) : ∃ arr', (sortWorldK enc k w b o m d os).heap[b]? = some (.cells arr' T fr) ∧ arr'.size = arr.size := by
  have hb : b < w.heap.size := by
    rcases Nat.lt_or_ge b w.heap.size with hh | hh
    · exact hh
    · rw [Array.getElem?_eq_none (by omega)] at h; simp at h
  refine ⟨Go.Sort.putCells id o (Go.Sort.flatK enc k d) arr, ?_, by simp [Go.Sort.putCells]⟩
  unfold sortWorldK
  rw [Go.Sort.heap_grow_old _ _ (by simpa [Go.Sort.putRowK] using hb)]
  simp [Go.Sort.putRowK, Go.Sort.putRow, Go.Sort.mapBlock, Array.getElem?_modify, h, Go.Sort.onCells]
theorem srt_keeps (m : Nat) (d : Array α) (os : Array Obj) {fp0 : List Nat} (hb : b ∈ fp0) : Keeps w fp0 (sortWorldK enc k w b o m d os) := by
  refine ⟨rfl, rfl, rfl, ?_, ?_, fun c hc hn => srt_other m d os (fun e => hn (e ▸ hb)) hc⟩
  · show w.drawn ≤ w.drawn + m
    omega
  · simp [sortWorldK, Go.Sort.putRowK]
end
theorem permIn_all {α : Type} [Inhabited α] {d d' : Array α} (h : Go.Sort.PermIn 0 d.size d d') : d'.toList.Perm d.toList := by
  obtain ⟨h1, _, h3⟩ := h
  have e1 : d'.extract 0 d.size = d' := by rw [← h1]; exact Array.extract_size
  rwa [e1, Array.extract_size] at h3
theorem sortedIn_all {α : Type} [Inhabited α] {lt : α → α → Bool} {d d' : Array α} (hs : d'.size = d.size) (h : Go.Sort.SortedIn lt 0 d.size d') : d'.toList.Pairwise fun a b => lt b a = false := by
  rw [List.pairwise_iff_getElem]
  intro i j hi hj hij
  simp only [Array.length_toList] at hi hj
  have := h i j (Nat.zero_le _) hij (by omega)
  rwa [getElem!_pos d' i hi, getElem!_pos d' j hj] at this

theorem ACalls.mono {P : Program} {f : Nat} {args : List FV} {ros : List (Rn × D)} {pure : Bool} {Q Q' : List D → List RV → Prop} (h : ACalls P f args ros pure Q) (hq : ∀ outs res, Q outs res → Q' outs res) : ACalls P f args ros pure Q' :=
  ⟨h.1, fun w fp0 ok vs ρ φ hl hR => (h.2 w fp0 ok vs ρ φ hl hR).mono fun e w' ⟨v, outs, res, ok', φ', fr, he, hQ, hD⟩ => ⟨v, outs, res, ok', φ', fr, he, hq _ _ hQ, hD⟩⟩

/-- **The sort, over a comparison's contract.** -/
theorem sort_calls {P : Program} {sf k g : Nat} (hcl : Callable P sf) (hS : SfOk P sf k) {τ : Type} {f : τ → List D} (hk : ∀ t, (f t).length = k) (hk0 : 0 < k) (hns : ∀ t, noShL (f t)) (hso : ∀ ts, solidL (rows f ts)) (cf : τ → τ → Int)
    (hO : Go.Sort.SWO (ltOf cf)) (ts : List τ) (hlen : ts.length < 4611686018427387904)
    (hcmp : ∀ x ∈ ts, ∀ y ∈ ts, ACalls P g [.ag ((shareL (f x)).map .d), .ag ((shareL (f y)).map .d)] [] true (fun outs res => outs = [] ∧ res = [.one (D.int (cf x y))])) :
    ACalls P sf [.al (0, 0) [] 0 ts.length, .d (.fn g [])] [((0, 0), .ow k ts.length (rows f ts))] true (fun outs res => ∃ r : List τ, r.Perm ts ∧ (r.Pairwise fun a b => ¬ cf b a < 0) ∧ outs = [.ow k ts.length (rows f r)] ∧ res = []) := by
  refine ⟨hcl, fun w fp0 ok vs ρ φ hl hR => ?_⟩
  match vs, hl with
  | [u, fv], _ =>
  have h0 := hR.env 0
  have h1 := hR.env 1
  simp only [argEnv, List.getD_cons_zero, List.getD_cons_succ, FR, Sh] at h0 h1
  obtain ⟨k1, N, cs, hv, ho, hh, hN, hsub⟩ := h0
  simp only [hdr, Option.some.injEq] at hh
  subst hh
  obtain ⟨lb, rfl, hlb⟩ := h1
  simp only [ShV] at hlb
  have hlb2 : lb = #[] := by
    apply Array.ext'
    simpa using hlb
  subst hlb2
  have hown := hR.own (0, 0) (.ow k ts.length (rows f ts)) (by simp [ofR])
  obtain ⟨how, hnd, hbl⟩ := hown
  have hsub2 : ∃ a M c, ρ (0, 0) = .slice a M c ∧ u = .slice a ts.length c := by
    rcases hsub with ⟨_, a, M, c, e1, e2⟩ | ⟨h, _⟩
    · exact ⟨a, M, c, e1, e2⟩
    · omega
  obtain ⟨a, M, c, e1, rfl⟩ := hsub2
  simp only [Ow] at how
  have hns2 : ∀ r : List τ, noSh (.ow k ts.length (rows f r)) := fun r => by
    simp only [noSh]
    exact rows_noSh hns r
  rcases how with ⟨hn0, hcs, hfp, a', e2⟩ | ⟨b, o, c', arr, T, fp', e2, hfp, hheap, hcap, harr, hlc, hOL⟩
  · -- nothing to sort
    have hts : ts = [] := List.eq_nil_of_length_eq_zero hn0
    subst hts
    rw [e1] at e2
    refine Calls.mono (hS.1 a c (.func (.func g) #[] #[]) w) ?_
    rintro e w' ⟨rfl, rfl⟩
    refine ⟨_, [.ow k 0 (rows f [])], [], ok, fun _ => [], [], rfl, ⟨[], List.Perm.nil, List.Pairwise.nil, rfl, rfl⟩, ?_⟩
    refine done1 (hns2 []) ?_ List.nodup_nil (by simp) (Keeps.refl _ fp0) hR.okb
    simp only [Ow, rows]
    exact .inl ⟨trivial, trivial, trivial, a', by rw [e1]; exact e2⟩
  · obtain ⟨us, hul, hus, hov⟩ := OwL_read hOL
    obtain ⟨els, het, heu, hef, heo⟩ := rows_els hk ts us fp' hov
    have hnl : els.length = ts.length := by rw [← het, List.length_map]
    rw [e1] at e2
    have e3 := Value.slice.inj e2
    obtain ⟨rfl, rfl, rfl⟩ := e3
    have hbm := hbl b (by rw [hfp]; simp)
    have hb0 : b ∈ fp0 := by
      rcases hbm.2.1 with h | h
      · exact h
      · omega
    rcases Nat.eq_zero_or_pos ts.length with hz | hpos
    · have hts : ts = [] := List.eq_nil_of_length_eq_zero hz
      subst hts
      refine Calls.mono (hS.1 (some ⟨b, o, none⟩) c (.func (.func g) #[] #[]) w) ?_
      rintro e w' ⟨rfl, rfl⟩
      refine ⟨_, [.ow k 0 (rows f [])], [], ok, fun _ => φ (0, 0), [], rfl, ⟨[], List.Perm.nil, List.Pairwise.nil, rfl, rfl⟩, ?_⟩
      refine done1 (hns2 []) ?_ hnd hbl (Keeps.refl _ fp0) hR.okb
      simp only [Ow]
      exact .inr ⟨b, o, c, arr, T, fp', by rw [e1]; rfl, hfp, hheap, hcap, harr, hlc, hOL⟩
    · have hinh : Inhabited (Fin els.length) := ⟨⟨0, by omega⟩⟩
      let enc : Fin els.length → List Value := fun i => els[i].us
      have henc : ∀ i, (enc i).length = k := fun i => by
        have := OwVs_length (heo els[i] (List.getElem_mem i.2))
        show els[i].us.length = k
        rw [this, hk]
      let d : Array (Fin els.length) := Array.ofFn id
      have hds : d.size = ts.length := by simp [d, hnl]
      have hdl : d.toList.flatMap enc = us := by
        rw [heu]
        show (Array.ofFn id).toList.flatMap enc = _
        rw [Array.toList_ofFn]
        conv => rhs; rw [← List.ofFn_getElem (xs := els)]
        simp only [List.flatMap, List.map_ofFn]
        rfl
      have hco : ∀ i : Fin els.length, cf els[i].t els[i].t = cf els[i].t els[i].t := fun _ => rfl
      have hmem : ∀ i : Fin els.length, els[i].t ∈ ts := fun i => by
        have h9 : els[i].t ∈ els.map (·.t) := List.mem_map.2 ⟨_, List.getElem_mem i.2, rfl⟩
        rwa [het] at h9
      have hO2 : Go.Sort.SWO (ltOf fun i j : Fin els.length => cf els[i].t els[j].t) := ⟨fun x => hO.irrefl _, fun x y z => hO.trans _ _ _, fun x y z => hO.ntrans _ _ _⟩
      have hkk : us.length = d.size * k := by rw [hul, hlc, hds, Nat.mul_comm]
      have hH : Go.Sort.HoldsK enc k w b o d := fun j hj => by
        rw [Go.Sort.size_flatK] at hj
        refine ⟨?_, not_frozen hheap⟩
        have := flatK_get henc d j hj
        rw [hdl] at this
        exact hus j _ this
      have hfne : ∀ x ∈ fp', x ≠ b := fun x hx e => by
        subst e
        rw [hfp] at hnd
        exact (List.nodup_cons.1 hnd).1 hx
      have hfb : ∀ x ∈ fp', x < w.heap.size := fun x hx => (hbl x (by rw [hfp]; simp [hx])).2.2
      have hC : CmpLays P g #[] enc k (fun i j : Fin els.length => cf els[i].t els[j].t) b o d.size w := fun m os dk hdk x y => by
        have hw : ∀ i : Fin els.length, OwVs (sortWorldK enc k w b o m dk os) ok (f els[i].t) (enc i) els[i].fp := fun i => by
          have hsub : ∀ q ∈ els[i].fp, q ∈ fp' := fun q hq => by rw [hef]; exact List.mem_flatMap.2 ⟨_, List.getElem_mem i.2, hq⟩
          refine OwVs_world (fun q hq => srt_other m dk os ?_ (hR.okb q hq)) (heo els[i] (List.getElem_mem i.2)) fun q hq => srt_other m dk os (hfne q (hsub q hq)) (hfb q (hsub q hq))
          rintro rfl
          exact hbm.1 hq
        have hgs := size_sortWorldK_c enc k w b o m dk os
        have hfi : ∀ i : Fin els.length, ∀ q ∈ els[i].fp, q < (sortWorldK enc k w b o m dk os).heap.size := fun i q hq => Nat.lt_of_lt_of_le (hfb q (by rw [hef]; exact List.mem_flatMap.2 ⟨_, List.getElem_mem i.2, hq⟩)) hgs
        exact cmp_call (hcmp _ (hmem x) _ (hmem y)) (hw x) (hw y) (hfi x) (hfi y) fun q hq => Nat.lt_of_lt_of_le (hR.okb q hq) hgs
      obtain ⟨fn, cd, hf1, hf2, hf3⟩ := (hcmp _ (hmem ⟨0, by omega⟩) _ (hmem ⟨0, by omega⟩)).1
      have h1c : ∀ x, ∀ v ∈ enc x, v.oneCell' = true := fun x v hv => by
        refine OwVs_solid ?_ (heo els[x] (List.getElem_mem x.2)) v hv
        have := hso [els[x].t]
        simpa [rows] using this
      have hcall := hS.2 (Fin els.length) enc henc h1c (fun i j => cf els[i].t els[j].t) hO2 g b o c d w (enters_of hf1 hf3 hf2) hC hH hbm.2.2 (by omega)
      rw [hds] at hcall
      refine Calls.mono hcall ?_
      rintro e w' ⟨rfl, d', m, os, hp, hsd, rfl⟩
      have hpl := permIn_all (d := d) (by rw [hds]; exact hp)
      have hdd : d.toList = List.finRange els.length := by
        show (Array.ofFn id).toList = _
        rw [Array.toList_ofFn]
        rfl
      have hsz' : d'.size = ts.length := hp.1.trans hds
      let el2 : List (El τ) := d'.toList.map fun i => els[i]
      have hpe : el2.Perm els := by
        have h2 := hpl.map fun i : Fin els.length => els[i]
        refine h2.trans (List.Perm.of_eq ?_)
        show (Array.ofFn id).toList.map _ = els
        rw [Array.toList_ofFn, List.map_ofFn]
        exact List.ofFn_getElem
      refine ⟨_, [.ow k ts.length (rows f (el2.map (·.t)))], [], ok, fun _ => b :: el2.flatMap (·.fp), [], rfl, ⟨el2.map (·.t), by rw [← het]; exact hpe.map _, ?_, rfl, rfl⟩, ?_⟩
      · have := sortedIn_all hp.1 (by rw [hds]; exact hsd)
        rw [List.pairwise_map, List.pairwise_map]
        refine this.imp fun h => ?_
        simpa [ltOf] using h
      · have hpf : (el2.flatMap (·.fp)).Perm fp' := by rw [hef]; exact hpe.flatMap_right _
        obtain ⟨arr', hb', hsa⟩ := srt_blk (enc := enc) (k := k) (o := o) m d' os hheap
        have hgs := size_sortWorldK_c enc k w b o m d' os
        refine done1 (hns2 _) ?_ ?_ ?_ (srt_keeps m d' os hb0) hR.okb
        · simp only [Ow]
          refine .inr ⟨b, o, c, arr', T, el2.flatMap (·.fp), e1, rfl, hb', hcap, by rw [hsa]; exact harr, ?_, ?_⟩
          · rw [rows_length hk, List.length_map, List.length_map, Array.length_toList, hsz']
          · have hov2 : OwVs w ok (rows f (el2.map (·.t))) (el2.flatMap (·.us)) (el2.flatMap (·.fp)) := els_rows el2 fun x hx => heo x (hpe.subset hx)
            have hflat : el2.flatMap (·.us) = d'.toList.flatMap enc := by
              show (d'.toList.map _).flatMap _ = _
              rw [List.flatMap_map]
            refine OwL_lay (fun q hq => srt_other m d' os ?_ (hR.okb q hq)) hov2 (fun j v hj => ?_) fun q hq => srt_other m d' os (hfne q (hpf.subset hq)) (hfb q (hpf.subset hq))
            · rintro rfl
              exact hbm.1 hq
            · have hHs := holdsK_sortWorldK_c enc k w b o d d' m os hH hbm.2.2 hp.1
              have hj2 : j < d'.size * k := by
                rcases Nat.lt_or_ge j (d'.toList.flatMap enc).length with h | h
                · rwa [flat_len henc, Array.length_toList] at h
                · rw [hflat, List.getElem?_eq_none h] at hj; simp at hj
              rw [hflat, flatK_get henc d' j hj2] at hj
              simp only [Option.some.injEq] at hj
              rw [← hj]
              exact (hHs j (by rw [Go.Sort.size_flatK]; exact hj2)).1
        · refine List.nodup_cons.2 ⟨fun h => hfne b (hpf.subset h) rfl, hpf.nodup_iff.2 ?_⟩
          rw [hfp] at hnd
          exact (List.nodup_cons.1 hnd).2
        · intro q hq
          rcases List.mem_cons.1 hq with rfl | hq
          · exact ⟨hbm.1, .inl hb0, Nat.lt_of_lt_of_le hbm.2.2 hgs⟩
          · have := hbl q (by rw [hfp]; simp [hpf.subset hq])
            exact ⟨this.1, this.2.1, Nat.lt_of_lt_of_le this.2.2 hgs⟩
end Go.Proofs.Ytocknokodgnlbaa.Ab
namespace Go.Proofs.Ytocknokodgnlbaa.Ab
open Go
set_option linter.unusedSimpArgs false
set_option linter.unusedVariables false
set_option maxRecDepth 10000
set_option maxHeartbeats 2000000
attribute [local simp] mapKV flatInt tileB
def SortOk : Prop := ∀ (ts : List Trm), (∀ t ∈ ts, t.e.length < 4611686018427387904) → (ts.map (·.e)).Nodup → ts.length < 4611686018427387904 →
  ACalls Try.prog F.slices_SortFunc_impl_Term_impl_Term [.al (0, 0) [] 0 ts.length, .d (.fn F.impl_building_done_1 [])] [((0, 0), .ow 2 ts.length (rows tO ts))] true (fun outs res => ∃ r : List Trm, r.Perm ts ∧ DescT r ∧ outs = [.ow 2 ts.length (rows tO r)] ∧ res = [])
theorem insK_len_eq {K : Type} [DecidableEq K] {lt : K → K → Bool} {k : K} {c : Int} (hc : c ≠ 0) : ∀ l : List (K × Int), (∀ x ∈ l, x.1 ≠ k) → (insK lt k c l).length = l.length + 1
  | [], _ => by simp [insK, hc]
  | x :: l, h => by
    simp only [insK]
    rw [if_neg (h x (by simp))]
    split
    · first | rfl | (rw [if_neg hc]; rfl)
    · simp [insK_len_eq hc l fun y hy => h y (by simp [hy])]
theorem nf_len_eq {K : Type} [DecidableEq K] {lt : K → K → Bool} : ∀ l : List (K × Int), (l.map (·.1)).Nodup → (∀ x ∈ l, x.2 ≠ 0) → (nf lt l).length = l.length
  | [], _, _ => rfl
  | x :: l, h, hz => by
    simp only [List.map_cons, List.nodup_cons] at h
    simp only [nf]
    rw [insK_len_eq (hz x (by simp)), nf_len_eq l h.2 fun y hy => hz y (by simp [hy])]
    · rfl
    · intro y hy e
      obtain ⟨z, hz, e2⟩ := nf_mem hy
      exact h.1 (List.mem_map.2 ⟨z, hz, by rw [e2, e]⟩)
theorem unpad_inj {n : Nat} {es l : List (List Int × Int)} (h : MapR n es l) : ((es.map (unpadT n)).map (·.1)).Nodup := by
  have : ∀ es : List (List Int × Int), (es.map (·.1)).Nodup → (∀ x ∈ es, ∃ e, e.length = n ∧ x.1 = pad e) → ((es.map (unpadT n)).map (·.1)).Nodup := by
    intro es
    induction es with
    | nil => intro _ _; simp
    | cons x es ih =>
      intro hn hp
      simp only [List.map_cons, List.nodup_cons] at hn ⊢
      refine ⟨fun hm => ?_, ih hn.2 fun y hy => hp y (by simp [hy])⟩
      obtain ⟨y, hy, e⟩ := List.mem_map.1 hm
      obtain ⟨z, hz, rfl⟩ := List.mem_map.1 hy
      obtain ⟨a, ha, e1⟩ := hp x (by simp)
      obtain ⟨b, hb, e2⟩ := hp z (by simp [hz])
      refine hn.1 (List.mem_map.2 ⟨z, hz, ?_⟩)
      simp only [unpadT] at e
      rw [e1, e2] at e ⊢
      have q1 : (pad a).take n = a := by rw [← ha]; exact pad_take
      have q2 : (pad b).take n = b := by rw [← hb]; exact pad_take
      rw [q1, q2] at e
      rw [e]
  exact this es h.nod fun x hx => (h.nz x hx).2
theorem unpad_nf2 {n : Nat} {es l : List (List Int × Int)} (h : MapR n es l) (hl : ∀ x ∈ l, x.1.length = n) : nf lexlt (es.map (unpadT n)) = nf lexlt l :=
  nf_unique lexOrd (nf_desc lexOrd _) (nf_nz _) fun k => by rw [nf_co, unpad_co h hl]
theorem unpad_len {n : Nat} {es l : List (List Int × Int)} (h : MapR n es l) (hl : ∀ x ∈ l, x.1.length = n) : (nf lexlt l).length = es.length := by
  rw [← unpad_nf2 h hl, nf_len_eq _ (unpad_inj h), List.length_map]
  intro x hx
  obtain ⟨y, hy, rfl⟩ := List.mem_map.1 hx
  exact (h.nz y hy).1
theorem shutF_many {n : Nat} {es l : List (List Int × Int)} (h : MapR n es l) (hl : ∀ x ∈ l, x.1.length = n) (hm : 600 < es.length) : shutF n l = (zeroF, false) := by
  unfold shutF
  rw [if_neg]
  intro hr
  have := hr.2.1
  simp only [List.length_map] at this
  rw [unpad_len h hl] at this
  omega
theorem erase_perm {α : Type} : ∀ (l : List α) (i : Nat) (h : i < l.length), (l[i] :: l.eraseIdx i).Perm l
  | [], i, h => by simp at h
  | x :: l, 0, h => by simp
  | x :: l, i + 1, h => by
    simp only [List.getElem_cons_succ, List.eraseIdx_cons_succ]
    exact (List.Perm.swap ..).trans (List.Perm.cons x (erase_perm l i (by simpa using h)))
theorem sh8 (n : Nat) (k0 k1 k2 k3 k4 k5 k6 k7 : Int) : shareL (List.take n [D.v (.int .i64 k0), D.v (.int .i64 k1), D.v (.int .i64 k2), D.v (.int .i64 k3), D.v (.int .i64 k4), D.v (.int .i64 k5), D.v (.int .i64 k6), D.v (.int .i64 k7)]) = ints (List.take n [k0, k1, k2, k3, k4, k5, k6, k7]) := by
  rw [show ([D.v (.int .i64 k0), D.v (.int .i64 k1), D.v (.int .i64 k2), D.v (.int .i64 k3), D.v (.int .i64 k4), D.v (.int .i64 k5), D.v (.int .i64 k6), D.v (.int .i64 k7)] : List D) = ints [k0, k1, k2, k3, k4, k5, k6, k7] from rfl, ints_take, shareL_ints]
theorem impl_building_done_1_calls (x y : Trm) (hx : x.e.length < 4611686018427387904) (hy : y.e.length < 4611686018427387904) : ACalls Try.prog F.impl_building_done_1 [.ag [.d (shI x.e), .int x.c], .ag [.d (shI y.e), .int y.c]] [] true (fun outs res => outs = [] ∧ res = [.one (D.int (cmpL y.e x.e))]) := by
  refine ACalls.of_body (C := C.impl_building_done_1) (n := Try.f118.ntmps) tabT folT Try.func118 rfl (by kernel_rfl) rfl (Nat.le_of_ble_eq_true rfl) (by decide) (by kernel_rfl) (by kernel_rfl) rfl (by simp) (by simp) ?_
  simp only [Try.f118]
  refine wseq ?_
  refine wreg fun K hK => ?_
  simp [C.impl_building_done_1]
  refine hK _ ?_; clear hK K
  show AWp _ _ _ _ _
  refine wseq ?_
  refine wregI ([0, 1, 2, 3, 4] ++ ([5])) rfl fun K hK => ?_
  refine opsI_seg fun L hL => ?_
  simp [C.impl_building_done_1]
  refine wcall1 (slices_Compare_int_int_calls y.e x.e hy) (by simp) (by simp) ?_
  simp [C.impl_building_done_1]
  refine hL _ ?_; clear hL L
  refine opsI_end fun L hL => ?_
  simp [C.impl_building_done_1]
  refine hL _ ?_; clear hL L
  simp [C.impl_building_done_1]
  refine hK _ ?_; clear hK K
  show AWp _ _ _ _ _
  refine wret ?_
  simp [C.impl_building_done_1]

theorem impl_building_done_calls (hSort : SortOk) (n : Nat) (es l : List (List Int × Int)) (hM : MapR n es l) (hl : ∀ x ∈ l, x.1.length = n) (h1 : 1 ≤ n) (h8 : n ≤ 8) (hL : l.length ≤ 1000000) : ACalls Try.prog F.impl_building_done [.pt (0, 0) [] 0] [((0, 0), .bx [D.int n, .mp es])] true (fun outs res => outs = [.bx [D.int n, .mp es]] ∧ WkRs res [.ag (fO (shutF n l).1), .one (D.bool (shutF n l).2)]) := by
  refine ACalls.of_body (C := C.impl_building_done) (n := Try.f57.ntmps) tabT folT Try.func57 rfl (by kernel_rfl) rfl (Nat.le_of_ble_eq_true rfl) (by decide) (by kernel_rfl) (by kernel_rfl) rfl (by simp) (by simp) ?_
  simp only [Try.f57]
  refine wseq ?_
  refine wreg fun K hK => ?_
  simp [C.impl_building_done]
  refine hK _ ?_; clear hK K
  show AWp _ _ _ _ _
  refine wseq ?_
  refine wreg fun K hK => ?_
  simp [C.impl_building_done]
  refine hK _ ?_; clear hK K
  show AWp _ _ _ _ _
  refine wseq ?_
  refine wseq ?_
  refine wreg fun K hK => ?_
  simp [C.impl_building_done]
  refine hK _ ?_; clear hK K
  show AWp _ _ _ _ _
  refine wcond _ rfl (fun hc1 => ?_) (fun hc1 => ?_)
  · have hm := shutF_many hM hl (by have := d_t hc1; omega)
    refine wseq ?_
    refine wreg fun K hK => ?_
    simp [C.impl_building_done]
    refine hK _ ?_; clear hK K
    show AWp _ _ _ _ _
    refine wret ?_
    simp [C.impl_building_done, hm, fO, zeroF, rows]
  · have h600 : es.length ≤ 600 := by have := d_f hc1; omega
    refine wskip ?_
    show AWp _ _ _ _ _
    refine wseq ?_
    refine wseq ?_
    refine wreg fun K hK => ?_
    simp [C.impl_building_done]
    refine hK _ ?_; clear hK K
    show AWp _ _ _ _ _
    refine wblock ?_
    refine wloopW (fun x : List Trm × List (List Int × Int) × Option (List Int × Int) => ⟨ofL [(0, .pt (0, 0) [] 0), (2, .pt (2, 0) [] 0), (4, .pt (4, 0) [] 0), (23, .it (23, 0) (0, 0) [1] x.2.1 x.2.2), (1000, .pt (0, 0) [] 0)], ofRO [((0, 0), some (.bx [D.int n, .mp es])), ((2, 0), some (.bx [D.int 0, .v (.slice none 0 0)])), ((4, 0), some (.bx [D.int n, .ow 2 x.1.length (rows tO x.1)])), ((23, 0), some .itr)]⟩) (fun x => (x.1.map pr ++ x.2.1.map (unpadT n)).Perm (es.map (unpadT n)) ∧ ∀ y ∈ x.2.1, y ∈ es) (fun x => x.2.1.length) ([], es, none) [.cell (4, 0) [] 1 2] (by simp [C.impl_building_done, rows]; funext q; by_cases e4 : q = (4, 0); (subst e4; rfl); by_cases e9 : q = (9999, 0); (subst e9; rfl); simp [ofRO, e4, e9, Ne.symm e4]) ⟨by simp, fun y hy => hy⟩ ?_
    intro x1 hx1 R1 hR1
    obtain ⟨q, rest, cur⟩ := x1
    obtain ⟨hq, hin⟩ := hx1
    dsimp only at hq hin ⊢
    refine wseq ?_
    refine wreg fun K hK => ?_
    simp [C.impl_building_done]
    refine ⟨fun hrest => ?_, fun i xk xc hx => ?_⟩
    · refine hK _ ?_; clear hK K
      show AWp _ _ _ _ _
      refine wseq ?_
      refine wcond _ rfl (fun hc2 => ?_) (fun hc2 => ?_)
      · simp at hc2
      · subst hrest
        have hq2 : (q.map pr).Perm (es.map (unpadT n)) := by simpa using hq
        have hqe : ∀ t ∈ q, t.e.length = n := fun t ht => by
          have h3 := hq2.subset (List.mem_map.2 ⟨t, ht, rfl⟩)
          obtain ⟨y, hy, e⟩ := List.mem_map.1 h3
          have e2 : t.e = y.1.take n := by
            have := congrArg Prod.fst e
            simpa [pr, unpadT] using this.symm
          rw [e2, List.length_take, hM.len8 h8 y hy]
          omega
        have hqn : (q.map (·.e)).Nodup := by
          have h3 := (hq2.map (·.1)).nodup_iff.2 (unpad_inj hM)
          rw [List.map_map] at h3
          exact h3
        have hql : q.length = es.length := by simpa using hq2.length_eq
        refine wexit ?_
        show AWp _ _ _ _ _
        refine wseq ?_
        refine wregI ([0, 1, 2] ++ ([])) rfl fun K hK => ?_
        refine opsI_seg fun L hL => ?_
        simp [C.impl_building_done]
        refine wcall (hSort q (fun t ht => by have := hqe t ht; omega) hqn (by omega)) (by simp) (by simp) (by simp) ?_
        rintro outs res ⟨r, hr, hd, rfl, rfl⟩
        simp [C.impl_building_done]
        refine hL _ ?_; clear hL L
        refine opsI_end fun L hL => ?_
        simp only [AOpsI]
        refine hL _ ?_; clear hL L
        simp [C.impl_building_done]
        refine hK _ ?_; clear hK K
        show AWp _ _ _ _ _
        refine wseq ?_
        refine wseq ?_
        have hrl : r.length = q.length := hr.length_eq
        have hrn : r.map pr = nf lexlt l := unpad_nf hM hl ((hr.map pr).trans hq2) (by
          unfold Desc
          rw [List.pairwise_map]
          exact hd)
        have hrt : (nf lexlt l).map tm = r := by
          rw [← hrn, List.map_map]
          have : tm ∘ pr = id := rfl
          rw [this, List.map_id]
        refine wregI ([0, 1] ++ ([2])) rfl fun K hK => ?_
        refine opsI_seg fun L hL => ?_
        simp [C.impl_building_done, hrl]
        refine wcall1 (impl_LaurentOk_calls ⟨n, r⟩ (by dsimp only; omega) (fun t ht => by have := hqe t (hr.subset ht); omega)) (by simp [hrl]) (by simp) ?_
        simp [C.impl_building_done, hrl]
        refine hL _ ?_; clear hL L
        refine opsI_end fun L hL => ?_
        simp [C.impl_building_done, hrl]
        refine hL _ ?_; clear hL L
        simp [C.impl_building_done, hrl]
        refine hK _ ?_; clear hK K
        show AWp _ _ _ _ _
        refine wcond _ rfl (fun hc3 => ?_) (fun hc3 => ?_)
        · have hR : ¬ Right ⟨n, r⟩ := by simpa using hc3
          have hm : shutF n l = (zeroF, false) := by unfold shutF; rw [hrt, if_neg hR]
          refine wseq ?_
          refine wreg fun K hK => ?_
          simp [C.impl_building_done]
          refine hK _ ?_; clear hK K
          show AWp _ _ _ _ _
          refine wret ?_
          simp [C.impl_building_done, hm, fO, zeroF, rows]
        · have hR : Right ⟨n, r⟩ := by simpa using hc3
          have hm : shutF n l = (⟨n, r⟩, true) := by unfold shutF; rw [hrt, if_pos hR]
          refine wskip ?_
          show AWp _ _ _ _ _
          refine wseq ?_
          refine wreg fun K hK => ?_
          simp [C.impl_building_done]
          refine hK _ ?_; clear hK K
          show AWp _ _ _ _ _
          refine wret ?_
          simp [C.impl_building_done, hm, fO, hrl]
    · refine hK _ ?_; clear hK K
      show AWp _ _ _ _ _
      refine wseq ?_
      refine wcond _ rfl (fun hc4 => ?_) (fun hc4 => ?_)
      · have hxm : (xk, xc) ∈ rest := List.mem_of_getElem? hx
        have hxl := hM.len8 h8 _ (hin _ hxm)
        dsimp only at hxl
        obtain ⟨k0, k1, k2, k3, k4, k5, k6, k7, rfl⟩ := eight hxl
        have hql : q.length + rest.length = es.length := by simpa using hq.length_eq
        have hil : i < rest.length := by
          rcases Nat.lt_or_ge i rest.length with h | h
          · exact h
          · rw [List.getElem?_eq_none h] at hx; simp at hx
        refine wskip ?_
        show AWp _ _ _ _ _
        refine wblock ?_
        refine wseq ?_
        refine wreg fun K hK => ?_
        simp [C.impl_building_done]
        refine hK _ ?_; clear hK K
        show AWp _ _ _ _ _
        refine wdrawI [(true, 0), (true, 1), (true, 2), (true, 3), (true, 4), (true, 5), (true, 6), (true, 8), (false, 7), (true, 9), (false, 10), (false, 11), (true, 12), (false, 13)] ⟨by kernel_rfl, by kernel_rfl⟩ ([0, 1, 2, 3, 4, 5, 6, 8, 7] ++ ([9, 10, 11, 12, 13])) rfl fun K hK => ?_
        refine opsI_seg fun L hL => ?_
        simp [C.impl_building_done, tO_snoc, show ((n : Int) ≤ 8) by omega, h8, Nat.min_eq_left h8, sh8, show (q.length + 1) * 32 ≤ 140737488355328 by omega]
        refine wcall1 (clone_calls ([k0, k1, k2, k3, k4, k5, k6, k7].take n) (by simp; omega)) (by simp [tO_snoc, show ((n : Int) ≤ 8) by omega, h8, Nat.min_eq_left h8, sh8, show (q.length + 1) * 32 ≤ 140737488355328 by omega]) (by simp) ?_
        simp [C.impl_building_done, tO_snoc, show ((n : Int) ≤ 8) by omega, h8, Nat.min_eq_left h8, sh8, show (q.length + 1) * 32 ≤ 140737488355328 by omega]
        refine hL _ ?_; clear hL L
        refine opsI_end fun L hL => ?_
        simp [C.impl_building_done, tO_snoc, show ((n : Int) ≤ 8) by omega, h8, Nat.min_eq_left h8, sh8, show (q.length + 1) * 32 ≤ 140737488355328 by omega]
        refine hL _ ?_; clear hL L
        simp [C.impl_building_done, tO_snoc, show ((n : Int) ≤ 8) by omega, h8, Nat.min_eq_left h8, sh8, show (q.length + 1) * 32 ≤ 140737488355328 by omega]
        refine hK _ ?_; clear hK K
        simp [C.impl_building_done]
        have htl : ([k0, k1, k2, k3, k4, k5, k6, k7].take n).length = n := by simp; omega
        have hrow : rows tO q ++ [D.ow 1 n (ints (List.take n [k0, k1, k2, k3, k4, k5, k6, k7])), D.v (.int .i64 xc)] = rows tO (q ++ [⟨List.take n [k0, k1, k2, k3, k4, k5, k6, k7], xc⟩]) := by
          rw [← tO_snoc]
          simp only [htl]
        refine cast (congrArg R1 ?_) (hR1 (q ++ [⟨List.take n [k0, k1, k2, k3, k4, k5, k6, k7], xc⟩], rest.eraseIdx i, some ([k0, k1, k2, k3, k4, k5, k6, k7], xc)) ⟨?_, ?_⟩ ?_)
        · simp [hrow]
        · dsimp only
          have hget : rest[i] = ([k0, k1, k2, k3, k4, k5, k6, k7], xc) := by
            rw [List.getElem?_eq_getElem hil] at hx
            injection hx
          have hper := erase_perm rest i hil
          rw [hget] at hper
          refine List.Perm.trans ?_ hq
          rw [List.map_append, List.append_assoc]
          exact List.Perm.append_left _ (hper.map (unpadT n))
        · exact fun y hy => hin y (List.mem_of_mem_eraseIdx hy)
        · dsimp only
          rw [List.length_eraseIdx_of_lt hil]
          omega
      · simp at hc4

end Go.Proofs.Ytocknokodgnlbaa.Ab
namespace Go.Proofs.Ytocknokodgnlbaa.Ab
open Go
set_option linter.unusedSimpArgs false
set_option linter.unusedVariables false
theorem sfTerm : SfOk Try.prog F.slices_SortFunc_impl_Term_impl_Term 2 := by
  refine ⟨fun p cap fv w => ?_, fun α _ enc hk h1 cf hO g blk off cap d w eg hcmp hH hblk hsz => ?_⟩
  · have h := AnyF.slices_SortFunc_none sortTerm p cap fv w
    rw [sortTerm_f6] at h
    exact h
  · have h := AnyQ.slices_SortFunc sortTerm 2 sortTerm_agg sortTerm_size enc hk h1 cf hO g #[] blk off cap d w eg hcmp hH hblk hsz
    rw [sortTerm_f6] at h
    exact h
theorem lexlt_ntrans (a b c : List Int) (h1 : lexlt a b = false) (h2 : lexlt b c = false) : lexlt a c = false := by
  cases h : lexlt a c with
  | false => rfl
  | true =>
    exfalso
    rcases lexlt_tot a b with h3 | h3 | h3
    · rw [h1] at h3; simp at h3
    · subst h3
      rw [h2] at h; simp at h
    · have := lexlt_tr b a c h3 h
      rw [h2] at this; simp at this
theorem swoTerm : Go.Sort.SWO (ltOf fun x y : Trm => cmpL y.e x.e) where
  irrefl x := by unfold ltOf; rw [cmpL_neg]; exact lexlt_irr _
  trans x y z h1 h2 := by
    unfold ltOf at *
    rw [cmpL_neg] at *
    exact lexlt_tr _ _ _ h2 h1
  ntrans x y z h1 h2 := by
    unfold ltOf at *
    rw [cmpL_neg] at *
    exact lexlt_ntrans _ _ _ h2 h1
theorem sortOk : SortOk := by
  intro ts hts hnd hlen
  have h := sort_calls (P := Try.prog) (g := F.impl_building_done_1) ⟨Try.f117, _, Try.func117, rfl, by kernel_rfl⟩ sfTerm tO_two (by omega) (fun t => by simp [tO, noShL, noSh]) (fun l => by
    induction l with
    | nil => trivial
    | cons x l ih =>
      simp only [rows, tO, List.cons_append, List.nil_append, solidL]
      exact ⟨rfl, rfl, ih⟩) (fun x y : Trm => cmpL y.e x.e) swoTerm ts hlen (fun x hx y hy => by
    have := impl_building_done_1_calls x y (hts x hx) (hts y hy)
    simpa [tO, shareL, share, shareL_ints] using this)
  refine ACalls.mono h ?_
  rintro outs res ⟨r, h1, h2, h3, h4⟩
  refine ⟨r, h1, ?_, h3, h4⟩
  have hnr : (r.map (·.e)).Nodup := (h1.map (·.e)).nodup_iff.2 hnd
  unfold DescT
  rw [List.Nodup, List.pairwise_map] at hnr
  refine (h2.and hnr).imp ?_
  rintro a b ⟨h5, h6⟩
  have h7 : lexlt a.e b.e = false := by
    rw [← cmpL_neg]
    simpa using h5
  rcases lexlt_tot a.e b.e with h8 | h8 | h8
  · rw [h7] at h8; simp at h8
  · exact absurd h8 h6
  · exact h8
end Go.Proofs.Ytocknokodgnlbaa.Ab
namespace Go.Proofs.Ytocknokodgnlbaa.Ab
open Go
theorem doneOk : DoneOk := fun n es l hM hl h1 h8 hL => (impl_building_done_calls sortOk n es l hM hl h1 h8 hL).weak1
theorem mulOk : MulOk := iMul_calls doneOk
end Go.Proofs.Ytocknokodgnlbaa.Ab
namespace Go.Proofs.Ytocknokodgnlbaa.Ab
open Go
set_option linter.unusedSimpArgs false
set_option linter.unusedVariables false
set_option maxRecDepth 10000
set_option maxHeartbeats 2000000
def byts (xs : List Int) : List D := xs.map fun x => D.v (.int .u8 x)
@[simp] theorem byts_length (xs : List Int) : (byts xs).length = xs.length := by simp [byts]
theorem byts_0 {xs : List Int} {i : Nat} (h : i < xs.length) : (byts xs)[i]? = some (D.v (.int .u8 xs[i])) ∧ ∀ h', (byts xs)[i]'h' = D.v (.int .u8 xs[i]) := by
  unfold byts
  exact ⟨by simp [h], fun _ => by simp⟩
theorem and_bd (x : Int) {m : Int} {b : Nat} (hm : (BitVec.ofInt 64 m).toNat = b) (hb : b < 4611686018427387904) : 0 ≤ IntKind.i64.wrap ((BitVec.ofInt 64 x &&& BitVec.ofInt 64 m).toNat : Int) ∧ IntKind.i64.wrap ((BitVec.ofInt 64 x &&& BitVec.ofInt 64 m).toNat : Int) ≤ b := by
  have h1 : (BitVec.ofInt 64 x &&& BitVec.ofInt 64 m).toNat ≤ b := by
    rw [BitVec.toNat_and, hm]
    exact Nat.and_le_right
  rw [wrapOk (by omega) (by omega)]
  omega
theorem ints_snocA (xs : List Int) (x : Int) : ints xs ++ [D.v (.int .i64 x)] = ints (xs ++ [x]) := by simp [ints]
/-- The cursor at place i of a code. -/
def cur (xs : List Int) (i : Nat) (h : Int) : D := .bx [.sh 1 xs.length (byts xs), D.int i, D.int h]
attribute [local simp] cur
/-- What a drawing does: the cursor goes on, a number comes. -/
def DrawI (xs : List Int) (p : Int → Prop) (outs : List D) (res : List RV) : Prop := ∃ (i' : Nat) (h' r : Int), i' ≤ xs.length ∧ p r ∧ outs = [cur xs i' h'] ∧ res = [.one (D.int r)]
def DrawE (xs : List Int) (p : List Int → Prop) (outs : List D) (res : List RV) : Prop := ∃ (i' : Nat) (h' : Int) (e : List Int), i' ≤ xs.length ∧ p e ∧ outs = [cur xs i' h'] ∧ res = [.one (owI e)]
theorem laws_big_calls (xs : List Int) : ACalls Try.prog F.laws_big [.d (.sh 1 xs.length (byts xs))] [] true (fun outs res => outs = [] ∧ res = [.one (D.bool (decide (1048576 < (xs.length : Int))))]) := by
  refine ACalls.of_body (C := C.laws_big) (n := Try.f10.ntmps) tabT folT Try.func10 rfl (by kernel_rfl) rfl (Nat.le_of_ble_eq_true rfl) (by decide) (by kernel_rfl) (by kernel_rfl) rfl (by simp) (by simp) ?_
  simp only [Try.f10]
  refine wseq ?_
  refine wreg fun K hK => ?_
  simp [C.laws_big]
  refine hK _ ?_; clear hK K
  show AWp _ _ _ _ _
  refine wseq ?_
  refine wreg fun K hK => ?_
  simp [C.laws_big]
  refine hK _ ?_; clear hK K
  show AWp _ _ _ _ _
  refine wret ?_
  simp [C.laws_big]

theorem spec_l1New_calls (xs : List Int) (hx : xs.length ≤ 1048576) : ACalls Try.prog F.spec_l1New [.d (.sh 1 xs.length (byts xs))] [] false (fun outs res => outs = [] ∧ ∃ h : Int, res = [.one (cur xs 0 h)]) := by
  refine ACalls.of_body (C := C.spec_l1New) (n := Try.f49.ntmps) tabT folT Try.func49 rfl (by kernel_rfl) rfl (Nat.le_of_ble_eq_true rfl) (by decide) (by kernel_rfl) (by kernel_rfl) rfl (by simp) (by simp) ?_
  simp only [Try.f49]
  refine wseq ?_
  refine wreg fun K hK => ?_
  simp [C.spec_l1New]
  refine hK _ ?_; clear hK K
  show AWp _ _ _ _ _
  refine wseq ?_
  refine wreg fun K hK => ?_
  simp [C.spec_l1New]
  rw [wrapOk (x := 124929 + (xs.length : Int)) (by omega) (by omega)]
  refine hK _ ?_; clear hK K
  show AWp _ _ _ _ _
  refine wseq ?_
  refine wseq ?_
  refine wreg fun K hK => ?_
  simp [C.spec_l1New]
  refine hK _ ?_; clear hK K
  show AWp _ _ _ _ _
  refine wblock ?_
  refine wloop (fun x : Nat × Int => ⟨ofL [(0, .d (.sh 1 xs.length (byts xs))), (3, .int x.2), (4, .int x.1)], ofRO []⟩) (fun x => x.1 ≤ xs.length) (fun x => xs.length - x.1) (0, 124929 + (xs.length : Int)) (by simp [C.spec_l1New]) (by simp) ?_
  intro x1 hx1 R1 hR1
  obtain ⟨j, h⟩ := x1
  dsimp only at hx1 ⊢
  refine wseq ?_
  refine wseq ?_
  refine wreg fun K hK => ?_
  have hJ : K ⟨ofL [(0, .d (.sh 1 xs.length (byts xs))), (3, .int h), (4, .int j), (15, .bool (decide (j < xs.length ∧ (j : Int) < 4000)))], ofRO []⟩ := by
    refine hK _ ?_; clear hK K
    show AWp _ _ _ _ _
    refine wcond _ rfl (fun hc1 => ?_) (fun hc1 => ?_)
    · have hh := d_t hc1
      have h1 : j < xs.length := hh.1
      refine wskip ?_
      show AWp _ _ _ _ _
      refine wseq ?_
      refine wblock ?_
      refine wreg fun K hK => ?_
      simp [C.spec_l1New, h1, byts_0 h1]
      refine hK _ ?_; clear hK K
      show AWp _ _ _ _ _
      refine wreg fun K hK => ?_
      simp [C.spec_l1New, wrap_succ (show j < 4611686018427387904 by omega)]
      refine hK _ ?_; clear hK K
      simp [C.spec_l1New]
      exact hR1 (j + 1, _) h1 (by dsimp only; omega)
    · refine wexit ?_
      show AWp _ _ _ _ _
      refine wseq ?_
      refine wreg fun K hK => ?_
      simp [C.spec_l1New]
      refine hK _ ?_; clear hK K
      show AWp _ _ _ _ _
      refine wret ?_
      simp [C.spec_l1New, cur]
  clear hK
  by_cases ha : j < xs.length
  · simp [C.spec_l1New, ha]
    refine cast (congrArg K ?_) hJ
    simp [ha]
  · simp [C.spec_l1New, ha]
    refine cast (congrArg K ?_) hJ
    simp [ha]

theorem spec_l1Byte_calls (xs : List Int) (i : Nat) (h : Int) (hi : i ≤ xs.length) (hx : xs.length ≤ 1048576) : ACalls Try.prog F.spec_l1Byte [.pt (0, 0) [] 0] [((0, 0), cur xs i h)] false (DrawI xs (fun r => 0 ≤ r ∧ r ≤ 255)) := by
  refine ACalls.of_body (C := C.spec_l1Byte) (n := Try.f111.ntmps) tabT folT Try.func111 rfl (by kernel_rfl) rfl (Nat.le_of_ble_eq_true rfl) (by decide) (by kernel_rfl) (by kernel_rfl) rfl (by simp) (by simp) ?_
  simp only [Try.f111]
  refine wseq ?_
  refine wreg fun K hK => ?_
  simp [C.spec_l1Byte, cur]
  refine hK _ ?_; clear hK K
  show AWp _ _ _ _ _
  refine wseq ?_
  refine wreg fun K hK => ?_
  simp [C.spec_l1Byte, cur]
  refine hK _ ?_; clear hK K
  show AWp _ _ _ _ _
  refine wseq ?_
  refine wdrawI [(true, 0), (true, 1), (true, 2), (true, 3), (true, 4), (true, 5), (true, 6), (true, 7), (true, 8), (true, 9), (true, 10), (true, 11), (true, 12)] ⟨by kernel_rfl, by kernel_rfl⟩ ([0, 1, 2, 3, 4, 5, 6, 7, 8, 9, 10, 11, 12]) rfl fun K hK => ?_
  refine opsI_end fun L hL => ?_
  simp [C.spec_l1Byte, cur]
  refine hL _ ?_; clear hL L
  simp [C.spec_l1Byte, cur]
  refine hK _ ?_; clear hK K
  show AWp _ _ _ _ _
  refine wseq ?_
  refine wseq ?_
  refine wdraw (.take 0 (.take 1 (.take 2 (.take 3 (.take 4 (.take 5 (.take 6 (.take 7 (.take 8 (.take 9 (.done))))))))))) ⟨by kernel_rfl, by kernel_rfl⟩ fun K hK => ?_
  simp [C.spec_l1Byte, cur]
  refine hK _ ?_; clear hK K
  show AWp _ _ _ _ _
  refine wcond _ rfl (fun hc1 => ?_) (fun hc1 => ?_)
  · have h1 : i < xs.length := by have := d_t hc1; omega
    refine wseq ?_
    refine wdrawI [(true, 0), (true, 1), (true, 2), (true, 3), (true, 4), (true, 5), (true, 6), (true, 7), (true, 8), (true, 9), (true, 10), (true, 11), (true, 12), (true, 13), (true, 14)] ⟨by kernel_rfl, by kernel_rfl⟩ ([0, 1, 2, 3, 4, 5, 6, 7, 8, 9, 10, 11, 12, 13, 14]) rfl fun K hK => ?_
    refine opsI_end fun L hL => ?_
    simp [C.spec_l1Byte, cur, h1, byts_0 h1]
    refine hL _ ?_; clear hL L
    simp [C.spec_l1Byte, cur, h1, byts_0 h1]
    refine hK _ ?_; clear hK K
    show AWp _ _ _ _ _
    refine wreg fun K hK => ?_
    simp [C.spec_l1Byte, cur, wrap_succ (show i < 4611686018427387904 by omega)]
    refine hK _ ?_; clear hK K
    show AWp _ _ _ _ _
    refine wseq ?_
    refine wreg fun K hK => ?_
    simp [C.spec_l1Byte, cur]
    refine hK _ ?_; clear hK K
    show AWp _ _ _ _ _
    refine wret ?_
    simp [C.spec_l1Byte, cur, cur]
    exact ⟨i + 1, _, _, h1, and_bd (m := 255) (b := 255) _ (by decide) (by decide), rfl, rfl⟩
  · have h1 : ¬ i < xs.length := by have := d_f hc1; omega
    refine wskip ?_
    show AWp _ _ _ _ _
    refine wseq ?_
    refine wreg fun K hK => ?_
    simp [C.spec_l1Byte, cur]
    refine hK _ ?_; clear hK K
    show AWp _ _ _ _ _
    refine wret ?_
    simp [C.spec_l1Byte, cur, cur]
    exact ⟨i, _, _, hi, and_bd (m := 255) (b := 255) _ (by decide) (by decide), rfl, rfl⟩

theorem spec_l1Below_calls (xs : List Int) (i : Nat) (h n : Int) (hi : i ≤ xs.length) (hx : xs.length ≤ 1048576) (hn : 0 < n ∧ n ≤ 256) : ACalls Try.prog F.spec_l1Below [.pt (0, 0) [] 0, .int n] [((0, 0), cur xs i h)] false (DrawI xs (fun r => 0 ≤ r ∧ r < n)) := by
  refine ACalls.of_body (C := C.spec_l1Below) (n := Try.f50.ntmps) tabT folT Try.func50 rfl (by kernel_rfl) rfl (Nat.le_of_ble_eq_true rfl) (by decide) (by kernel_rfl) (by kernel_rfl) rfl (by simp) (by simp) ?_
  simp only [Try.f50]
  refine wseq ?_
  refine wreg fun K hK => ?_
  simp [C.spec_l1Below, cur]
  refine hK _ ?_; clear hK K
  show AWp _ _ _ _ _
  refine wseq ?_
  refine wseq ?_
  refine wreg fun K hK => ?_
  simp [C.spec_l1Below, cur]
  refine hK _ ?_; clear hK K
  show AWp _ _ _ _ _
  refine wcond _ rfl (fun hc1 => ?_) (fun hc1 => ?_)
  · have := d_t hc1; omega
  · refine wskip ?_
    show AWp _ _ _ _ _
    refine wseq ?_
    refine wseq ?_
    refine wreg fun K hK => ?_
    simp [C.spec_l1Below, cur]
    refine hK _ ?_; clear hK K
    show AWp _ _ _ _ _
    refine wcond _ rfl (fun hc2 => ?_) (fun hc2 => ?_)
    · refine wseq ?_
      refine wregI ([0, 1] ++ ([2, 3, 4])) rfl fun K hK => ?_
      refine opsI_seg fun L hL => ?_
      simp [C.spec_l1Below, cur, show ¬ n = 0 by omega]
      refine wcall (spec_l1Byte_calls xs i h hi hx) (by simp) (by simp) (by simp) ?_
      rintro outs res ⟨i', h', r, q1, q2, rfl, rfl⟩
      simp [C.spec_l1Below, cur, show ¬ n = 0 by omega]
      refine hL _ ?_; clear hL L
      refine opsI_end fun L hL => ?_
      simp [C.spec_l1Below, cur, show ¬ n = 0 by omega]
      refine hL _ ?_; clear hL L
      simp [C.spec_l1Below, cur, show ¬ n = 0 by omega]
      refine hK _ ?_; clear hK K
      show AWp _ _ _ _ _
      refine wret ?_
      simp [C.spec_l1Below, cur]
      exact ⟨i', h', r.tmod n, q1, ⟨Int.tmod_nonneg _ q2.1, Int.tmod_lt_of_pos _ hn.1⟩, rfl, rfl⟩
    · have := d_f hc2; omega

theorem spec_dExp_calls (xs : List Int) (i : Nat) (h : Int) (n : Nat) (hi : i ≤ xs.length) (hx : xs.length ≤ 1048576) (hn : n ≤ 8) : ACalls Try.prog F.spec_dExp [.pt (0, 0) [] 0, .int n] [((0, 0), cur xs i h)] false (DrawE xs (fun e => e.length = n ∧ ∀ x ∈ e, -2 ≤ x ∧ x ≤ 2)) := by
  refine ACalls.of_body (C := C.spec_dExp) (n := Try.f113.ntmps) tabT folT Try.func113 rfl (by kernel_rfl) rfl (Nat.le_of_ble_eq_true rfl) (by decide) (by kernel_rfl) (by kernel_rfl) rfl (by simp) (by simp) ?_
  simp only [Try.f113]
  refine wseq ?_
  refine wreg fun K hK => ?_
  simp [C.spec_dExp, cur]
  refine hK _ ?_; clear hK K
  show AWp _ _ _ _ _
  refine wseq ?_
  refine wreg fun K hK => ?_
  simp [C.spec_dExp, cur]
  refine hK _ ?_; clear hK K
  show AWp _ _ _ _ _
  refine wseq ?_
  refine wseq ?_
  refine wreg fun K hK => ?_
  simp [C.spec_dExp, cur]
  refine hK _ ?_; clear hK K
  show AWp _ _ _ _ _
  refine wblock ?_
  refine wloop (fun x : Nat × List Int × Nat × Int => ⟨ofL [(0, .pt (0, 0) [] 0), (1, .int n), (5, .al (5, 0) [] 0 x.1), (6, .int x.1), (1000, .pt (0, 0) [] 0)], ofRO [((0, 0), some (cur xs x.2.2.1 x.2.2.2)), ((5, 0), some (.ow 1 x.1 (ints x.2.1)))]⟩) (fun x => x.1 ≤ n ∧ x.2.1.length = x.1 ∧ (∀ y ∈ x.2.1, -2 ≤ y ∧ y ≤ 2) ∧ x.2.2.1 ≤ xs.length) (fun x => n - x.1) (0, [], i, h) (by simp [C.spec_dExp, ints]) ⟨by simp, rfl, by simp, hi⟩ ?_
  intro x1 hx1 R1 hR1
  obtain ⟨j, e, i1, h1⟩ := x1
  obtain ⟨g1, g2, g3, g4⟩ := hx1
  dsimp only at g1 g2 g3 g4 ⊢
  refine wseq ?_
  refine wseq ?_
  refine wreg fun K hK => ?_
  simp [C.spec_dExp, cur]
  refine hK _ ?_; clear hK K
  show AWp _ _ _ _ _
  refine wcond _ rfl (fun hc1 => ?_) (fun hc1 => ?_)
  · have hj : j < n := by have := d_t hc1; omega
    refine wskip ?_
    show AWp _ _ _ _ _
    refine wseq ?_
    refine wblock ?_
    refine wregI ([0, 1, 2] ++ ([3, 4, 5, 6])) rfl fun K hK => ?_
    refine opsI_seg fun L hL => ?_
    simp [C.spec_dExp, cur, ints_snocA, show (j + 1) * 8 ≤ 140737488355328 by omega]
    refine wcall (spec_l1Below_calls xs i1 h1 5 g4 hx (by omega)) (by simp) (by simp) (by simp) ?_
    rintro outs res ⟨i', h', r, q1, q2, rfl, rfl⟩
    simp [C.spec_dExp, cur, ints_snocA, show (j + 1) * 8 ≤ 140737488355328 by omega]
    refine hL _ ?_; clear hL L
    refine opsI_end fun L hL => ?_
    simp [C.spec_dExp, cur, ints_snocA, show (j + 1) * 8 ≤ 140737488355328 by omega]
    refine hL _ ?_; clear hL L
    simp [C.spec_dExp, cur, ints_snocA, show (j + 1) * 8 ≤ 140737488355328 by omega]
    refine hK _ ?_; clear hK K
    show AWp _ _ _ _ _
    refine wreg fun K hK => ?_
    simp [C.spec_dExp, cur, wrap_succ (show j < 4611686018427387904 by omega)]
    refine hK _ ?_; clear hK K
    simp [C.spec_dExp, cur]
    rw [wrapOk (x := r - 2) (by omega) (by omega)]
    refine hR1 (j + 1, e ++ [r - 2], i', h') ⟨hj, by dsimp only; simp; omega, ?_, q1⟩ (by dsimp only; omega)
    dsimp only
    intro y hy
    rcases List.mem_append.1 hy with hy | hy
    · exact g3 y hy
    · simp only [List.mem_singleton] at hy
      omega
  · have hj : j = n := by have := d_f hc1; omega
    refine wexit ?_
    show AWp _ _ _ _ _
    refine wseq ?_
    refine wreg fun K hK => ?_
    simp [C.spec_dExp, cur]
    refine hK _ ?_; clear hK K
    show AWp _ _ _ _ _
    refine wret ?_
    simp [C.spec_dExp, cur]
    exact ⟨i1, h1, e, g4, ⟨by omega, g3⟩, by simp [hj, g2, owI]⟩

end Go.Proofs.Ytocknokodgnlbaa.Ab
namespace Go.Proofs.Ytocknokodgnlbaa.Ab
open Go
set_option linter.unusedSimpArgs false
set_option linter.unusedVariables false
set_option maxRecDepth 10000
set_option maxHeartbeats 2000000
attribute [local simp] cur
/-- A sum as it is drawn. -/
def Drawn (n : Nat) (f : Lau) : Prop := Right f ∧ f.v = n ∧ f.ts.length ≤ 4 ∧ ∀ t ∈ f.ts, (-16 ≤ t.c ∧ t.c ≤ 16) ∧ ∀ x ∈ t.e, -2 ≤ x ∧ x ≤ 2
def DrawL (n : Nat) (L : List (List Int × Int)) : Prop := L.length ≤ 4 ∧ ∀ x ∈ L, (x.1.length = n ∧ ∀ y ∈ x.1, -2 ≤ y ∧ y ≤ 2) ∧ -4 ≤ x.2 ∧ x.2 ≤ 4
theorem drawL_exps {n : Nat} {L : List (List Int × Int)} (h : DrawL n L) : Exps n L := fun x hx => ⟨(h.2 x hx).1.1, fun y hy => by have := (h.2 x hx).1.2 y hy; omega⟩
theorem drawL_abs {n : Nat} : ∀ {L : List (List Int × Int)}, (∀ x ∈ L, (x.1.length = n ∧ ∀ y ∈ x.1, -2 ≤ y ∧ y ≤ 2) ∧ -4 ≤ x.2 ∧ x.2 ≤ 4) → absE L ≤ L.length * 4
  | [], _ => by simp [absE]
  | x :: L, h => by
    have h1 := (h x (by simp)).2
    have h2 := drawL_abs (L := L) fun y hy => h y (by simp [hy])
    simp only [absE, List.map_cons, List.sum_cons, List.length_cons] at h2 ⊢
    omega
theorem co_at {K : Type} [DecidableEq K] {lt : K → K → Bool} (ho : Ord lt) : ∀ {l : List (K × Int)}, Desc lt l → ∀ x ∈ l, co x.1 l = x.2
  | y :: l, h, x, hx => by
    rcases List.mem_cons.1 hx with rfl | hx
    · simp only [co, if_true]
      rw [co_none x.1 l (desc_tail_ne ho h)]
      omega
    · have hne := desc_tail_ne ho h x hx
      simp only [co]
      rw [if_neg (fun e => hne e.symm), co_at ho (List.pairwise_cons.1 h).2 x hx]
      omega
theorem drawn_of {n : Nat} {L : List (List Int × Int)} (hn : 1 ≤ n ∧ n ≤ 8) (h : DrawL n L) : Drawn n ⟨n, (nf lexlt L).map tm⟩ := by
  have hl := nf_len (lt := lexlt) L
  have hd := nf_desc lexOrd L
  have hz := nf_nz (lt := lexlt) L
  have hab := drawL_abs h.2
  have hL := h.1
  have ht : ∀ x ∈ nf lexlt L, (-16 ≤ x.2 ∧ x.2 ≤ 16) ∧ x.1.length = n ∧ ∀ y ∈ x.1, -2 ≤ y ∧ y ≤ 2 := fun x hx => by
    have h1 := co_at lexOrd hd x hx
    rw [nf_co] at h1
    have h2 := co_abs x.1 L
    obtain ⟨z, hz1, hz2⟩ := nf_mem hx
    have h3 := (h.2 z hz1).1
    rw [hz2] at h3
    refine ⟨by omega, h3⟩
  refine ⟨⟨by dsimp only; omega, by dsimp only; rw [List.length_map]; omega, fun t hm => ?_, ?_⟩, rfl, by dsimp only; rw [List.length_map]; omega, fun t hm => ?_⟩
  · obtain ⟨x, hx, rfl⟩ := List.mem_map.1 hm
    have := ht x hx
    refine ⟨by simp only [tm]; omega, hz x hx, by simp only [tm]; omega, fun y hy => ?_⟩
    have := this.2.2 y hy
    omega
  · unfold DescT
    rw [List.pairwise_map]
    exact hd
  · obtain ⟨x, hx, rfl⟩ := List.mem_map.1 hm
    exact ⟨(ht x hx).1, (ht x hx).2.2⟩
def DrawF (xs : List Int) (n : Nat) (outs : List D) (res : List RV) : Prop := ∃ (i' : Nat) (h' : Int) (f : Lau), i' ≤ xs.length ∧ Drawn n f ∧ outs = [cur xs i' h'] ∧ res = [.ag (fO f)]
theorem spec_dLaurent_calls (xs : List Int) (i : Nat) (h : Int) (n : Nat) (hi : i ≤ xs.length) (hx : xs.length ≤ 1048576) (hn : 1 ≤ n ∧ n ≤ 8) : ACalls Try.prog F.spec_dLaurent [.pt (0, 0) [] 0, .int n] [((0, 0), cur xs i h)] false (DrawF xs n) := by
  refine ACalls.of_body (C := C.spec_dLaurent) (n := Try.f51.ntmps) tabT folT Try.func51 rfl (by kernel_rfl) rfl (Nat.le_of_ble_eq_true rfl) (by decide) (by kernel_rfl) (by kernel_rfl) rfl (by simp) (by simp) ?_
  simp only [Try.f51]
  refine wseq ?_
  refine wreg fun K hK => ?_
  simp [C.spec_dLaurent]
  refine hK _ ?_; clear hK K
  show AWp _ _ _ _ _
  refine wseq ?_
  refine wreg fun K hK => ?_
  simp [C.spec_dLaurent]
  refine hK _ ?_; clear hK K
  show AWp _ _ _ _ _
  refine wseq ?_
  refine wregI ([0, 1] ++ ([2])) rfl fun K hK => ?_
  refine opsI_seg fun L hL => ?_
  simp [C.spec_dLaurent]
  refine wcall (spec_l1Below_calls xs i h 5 hi hx (by omega)) (by simp) (by simp) (by simp) ?_
  rintro outs res ⟨i1, h1, c, q1, q2, rfl, rfl⟩
  simp [C.spec_dLaurent]
  refine hL _ ?_; clear hL L
  refine opsI_end fun L hL => ?_
  simp [C.spec_dLaurent]
  refine hL _ ?_; clear hL L
  simp [C.spec_dLaurent]
  refine hK _ ?_; clear hK K
  show AWp _ _ _ _ _
  refine wseq ?_
  refine wseq ?_
  obtain ⟨m, rfl⟩ : ∃ m : Nat, c = m := ⟨c.toNat, by omega⟩
  refine wreg fun K hK => ?_
  simp [C.spec_dLaurent]
  refine hK _ ?_; clear hK K
  show AWp _ _ _ _ _
  refine wblock ?_
  refine wloop (fun x : Nat × List (List Int × Int) × Nat × Int => ⟨ofL [(0, .pt (0, 0) [] 0), (1, .int n), (4, .pt (4, 0) [] 0), (5, .al (5, 0) [] 0 x.1), (6, .int m), (7, .int x.1), (1000, .pt (0, 0) [] 0)], ofRO [((0, 0), some (cur xs x.2.2.1 x.2.2.2)), ((4, 0), some (.bx [D.int 0, .v (.slice none 0 0)])), ((5, 0), some (.ow 2 x.1 (rows gM (x.2.1.map kc))))]⟩) (fun x => x.1 ≤ m ∧ x.2.1.length = x.1 ∧ (∀ y ∈ x.2.1, (y.1.length = n ∧ ∀ z ∈ y.1, -2 ≤ z ∧ z ≤ 2) ∧ -4 ≤ y.2 ∧ y.2 ≤ 4) ∧ x.2.2.1 ≤ xs.length) (fun x => m - x.1) (0, [], i1, h1) (by simp [C.spec_dLaurent, rows]) ⟨by simp, rfl, by simp, q1⟩ ?_
  intro x1 hx1 R1 hR1
  obtain ⟨j, L, i2, h2⟩ := x1
  obtain ⟨g1, g2, g3, g4⟩ := hx1
  dsimp only at g1 g2 g3 g4 ⊢
  refine wseq ?_
  refine wseq ?_
  refine wreg fun K hK => ?_
  simp [C.spec_dLaurent]
  refine hK _ ?_; clear hK K
  show AWp _ _ _ _ _
  refine wcond _ rfl (fun hc1 => ?_) (fun hc1 => ?_)
  · have hj : j < m := by have := d_t hc1; omega
    refine wskip ?_
    show AWp _ _ _ _ _
    refine wseq ?_
    refine wblock ?_
    refine wregI ([0, 1, 2, 3] ++ ([4] ++ ([5, 6] ++ ([7, 8, 9, 10, 11])))) rfl fun K hK => ?_
    refine opsI_seg fun L hL => ?_
    simp [C.spec_dLaurent, gM_snoc, show (j + 1) * 16 ≤ 140737488355328 by omega]
    refine wcall (spec_dExp_calls xs i2 h2 n g4 hx hn.2) (by simp) (by simp) (by simp) ?_
    rintro outs res ⟨i3, h3, e, p1, p2, rfl, rfl⟩
    simp [C.spec_dLaurent, gM_snoc, show (j + 1) * 16 ≤ 140737488355328 by omega]
    refine hL _ ?_; clear hL L
    refine opsI_seg fun L hL => ?_
    simp [C.spec_dLaurent, gM_snoc, show (j + 1) * 16 ≤ 140737488355328 by omega]
    refine wcall1 (spec_l2Key_calls e (fun z hz => by have := p2.2 z hz; omega) (by omega)) (by simp) (by simp) ?_
    simp [C.spec_dLaurent, gM_snoc, show (j + 1) * 16 ≤ 140737488355328 by omega]
    refine hL _ ?_; clear hL L
    refine opsI_seg fun L hL => ?_
    simp [C.spec_dLaurent, gM_snoc, show (j + 1) * 16 ≤ 140737488355328 by omega]
    refine wcall (spec_l1Below_calls xs i3 h3 9 p1 hx (by omega)) (by simp) (by simp) (by simp) ?_
    rintro outs res ⟨i4, h4, r, s1, s2, rfl, rfl⟩
    simp [C.spec_dLaurent, gM_snoc, show (j + 1) * 16 ≤ 140737488355328 by omega]
    refine hL _ ?_; clear hL L
    refine opsI_end fun L hL => ?_
    simp [C.spec_dLaurent, gM_snoc, show (j + 1) * 16 ≤ 140737488355328 by omega]
    refine hL _ ?_; clear hL L
    simp [C.spec_dLaurent, gM_snoc, show (j + 1) * 16 ≤ 140737488355328 by omega]
    refine hK _ ?_; clear hK K
    show AWp _ _ _ _ _
    refine wreg fun K hK => ?_
    simp [C.spec_dLaurent, wrap_succ (show j < 4611686018427387904 by omega)]
    refine hK _ ?_; clear hK K
    simp [C.spec_dLaurent]
    rw [wrapOk (x := r - 4) (by omega) (by omega)]
    refine cast (congrArg R1 ?_) (hR1 (j + 1, L ++ [(e, r - 4)], i4, h4) ⟨hj, by dsimp only; simp; omega, ?_, s1⟩ (by dsimp only; omega))
    · simp [kc]
    · dsimp only
      intro y hy
      rcases List.mem_append.1 hy with hy | hy
      · exact g3 y hy
      · simp only [List.mem_singleton] at hy
        subst hy
        exact ⟨p2, by dsimp only; omega⟩
  · have hj : j = m := by have := d_f hc1; omega
    have hD : DrawL n L := ⟨by omega, g3⟩
    have hex := drawL_exps hD
    have hG := spec_l2Gather_calls (L.map kc) (by simp; omega) (by
      have := drawL_abs g3
      have e : absL (L.map kc) = absE L := by simp [absL, absE, kc, Function.comp_def]
      omega)
    rw [nf_key _ hex] at hG
    simp only [List.length_map, g2] at hG
    have hnl := nf_len (lt := lexlt) L
    have hS := shut_coded (nf lexlt L) n (by omega) (fun x hx => by have := nf_exps hex x hx; exact ⟨this.2, this.1⟩) hn.2
    have hdr := drawn_of hn hD
    have hend : endF n (some (nf lexlt L)) = (⟨n, (nf lexlt L).map tm⟩, true) := if_pos hdr.1
    rw [hend] at hS
    refine wexit ?_
    show AWp _ _ _ _ _
    refine wseq ?_
    refine wregI ([0, 1] ++ ([2, 3] ++ ([4, 5, 6, 7, 8, 9]))) rfl fun K hK => ?_
    refine opsI_seg fun L hL => ?_
    simp [C.spec_dLaurent, fO]
    refine wcall1 (hG) (by simp) (by simp) ?_
    simp [C.spec_dLaurent, fO]
    refine hL _ ?_; clear hL L
    refine opsI_seg fun L hL => ?_
    simp [C.spec_dLaurent, fO]
    refine wcall1 (hS) (by simp) (by simp) ?_
    simp [C.spec_dLaurent, fO]
    refine hL _ ?_; clear hL L
    refine opsI_end fun L hL => ?_
    simp [C.spec_dLaurent, fO]
    refine hL _ ?_; clear hL L
    simp [C.spec_dLaurent, fO]
    refine hK _ ?_; clear hK K
    show AWp _ _ _ _ _
    refine wseq ?_
    refine wreg fun K hK => ?_
    simp [C.spec_dLaurent, fO]
    refine hK _ ?_; clear hK K
    show AWp _ _ _ _ _
    refine wret ?_
    simp [C.spec_dLaurent]
    exact ⟨i2, h2, _, g4, hdr, rfl, by simp [fO]⟩

end Go.Proofs.Ytocknokodgnlbaa.Ab
namespace Go.Proofs.Ytocknokodgnlbaa.Ab
open Go
set_option linter.unusedSimpArgs false
set_option linter.unusedVariables false
set_option maxRecDepth 10000
set_option maxHeartbeats 2000000
attribute [local simp] cur
def DrawS (outs : List D) (res : List RV) : Prop := ∃ (n : Nat) (f g h : Lau), (1 ≤ n ∧ n ≤ 3) ∧ Drawn n f ∧ Drawn n g ∧ Drawn n h ∧ outs = [] ∧ res = [.ag (fO f), .ag (fO g), .ag (fO h)]
theorem spec_DrawSums_calls (xs : List Int) (hx : xs.length ≤ 1048576) : ACalls Try.prog F.spec_DrawSums [.d (.sh 1 xs.length (byts xs))] [] false DrawS := by
  refine ACalls.of_body (C := C.spec_DrawSums) (n := Try.f11.ntmps) tabT folT Try.func11 rfl (by kernel_rfl) rfl (Nat.le_of_ble_eq_true rfl) (by decide) (by kernel_rfl) (by kernel_rfl) rfl (by simp) (by simp) ?_
  simp only [Try.f11]
  refine wseq ?_
  refine wreg fun K hK => ?_
  simp [C.spec_DrawSums]
  refine hK _ ?_; clear hK K
  show AWp _ _ _ _ _
  refine wseq ?_
  refine wregI ([0, 1] ++ ([2])) rfl fun K hK => ?_
  refine opsI_seg fun L hL => ?_
  simp [C.spec_DrawSums]
  refine wcall (spec_l1New_calls xs hx) (by simp) (by simp) (by simp) ?_
  rintro outs res ⟨rfl, h0, rfl⟩
  simp [C.spec_DrawSums]
  refine hL _ ?_; clear hL L
  refine opsI_end fun L hL => ?_
  simp [C.spec_DrawSums]
  refine hL _ ?_; clear hL L
  simp [C.spec_DrawSums]
  refine hK _ ?_; clear hK K
  show AWp _ _ _ _ _
  refine wseq ?_
  refine wregI ([0, 1] ++ ([2, 3])) rfl fun K hK => ?_
  refine opsI_seg fun L hL => ?_
  simp [C.spec_DrawSums]
  refine wcall (spec_l1Below_calls xs 0 h0 2 (by omega) hx (by omega)) (by simp) (by simp) (by simp) ?_
  rintro outs res ⟨i1, h1, c, q1, q2, rfl, rfl⟩
  simp [C.spec_DrawSums]
  refine hL _ ?_; clear hL L
  refine opsI_end fun L hL => ?_
  simp [C.spec_DrawSums]
  refine hL _ ?_; clear hL L
  simp [C.spec_DrawSums]
  refine hK _ ?_; clear hK K
  show AWp _ _ _ _ _
  refine wseq ?_
  obtain ⟨n, hn⟩ : ∃ n : Nat, 2 + c = n := ⟨(2 + c).toNat, by omega⟩
  have hw : IntKind.i64.wrap (2 + c) = n := by rw [wrapOk (by omega) (by omega), hn]
  refine wregI ([0, 1, 2] ++ ([3, 4, 5] ++ ([6, 7, 8] ++ ([9, 10, 11])))) rfl fun K hK => ?_
  refine opsI_seg fun L hL => ?_
  simp [C.spec_DrawSums, hw, fO]
  refine wcall (spec_dLaurent_calls xs i1 h1 n q1 hx (by omega)) (by simp) (by simp) (by simp) ?_
  rintro outs res ⟨i2, h2, f, p1, p2, rfl, rfl⟩
  simp [C.spec_DrawSums, hw, fO]
  refine hL _ ?_; clear hL L
  refine opsI_seg fun L hL => ?_
  simp [C.spec_DrawSums, hw, fO]
  refine wcall (spec_dLaurent_calls xs i2 h2 n p1 hx (by omega)) (by simp) (by simp) (by simp) ?_
  rintro outs res ⟨i3, h3, g, s1, s2, rfl, rfl⟩
  simp [C.spec_DrawSums, hw, fO]
  refine hL _ ?_; clear hL L
  refine opsI_seg fun L hL => ?_
  simp [C.spec_DrawSums, hw, fO]
  refine wcall (spec_dLaurent_calls xs i3 h3 n s1 hx (by omega)) (by simp) (by simp) (by simp) ?_
  rintro outs res ⟨i4, h4, k, u1, u2, rfl, rfl⟩
  simp [C.spec_DrawSums, hw, fO]
  refine hL _ ?_; clear hL L
  refine opsI_end fun L hL => ?_
  simp [C.spec_DrawSums, hw, fO]
  refine hL _ ?_; clear hL L
  simp [C.spec_DrawSums, hw, fO]
  refine hK _ ?_; clear hK K
  show AWp _ _ _ _ _
  refine wret ?_
  simp [C.spec_DrawSums]
  exact ⟨n, f, g, k, by omega, p2, s2, u2, rfl, by simp [fO]⟩

theorem laws_ints_calls (a b : List Int) (hx : a.length < 4611686018427387904) : ACalls Try.prog F.laws_ints [.d (shI a), .d (shI b)] [] true (fun outs res => outs = [] ∧ res = [.one (D.bool (decide (a = b)))]) := by
  refine ACalls.of_body (C := C.laws_ints) (n := Try.f61.ntmps) tabT folT Try.func61 rfl (by kernel_rfl) rfl (Nat.le_of_ble_eq_true rfl) (by decide) (by kernel_rfl) (by kernel_rfl) rfl (by simp) (by simp) ?_
  simp only [Try.f61]
  refine wseq ?_
  refine wreg fun K hK => ?_
  simp [C.laws_ints]
  refine hK _ ?_; clear hK K
  show AWp _ _ _ _ _
  refine wseq ?_
  refine wseq ?_
  refine wreg fun K hK => ?_
  simp [C.laws_ints]
  refine hK _ ?_; clear hK K
  show AWp _ _ _ _ _
  refine wcond _ rfl (fun hc1 => ?_) (fun hc1 => ?_)
  · refine wseq ?_
    refine wreg fun K hK => ?_
    simp [C.laws_ints]
    refine hK _ ?_; clear hK K
    show AWp _ _ _ _ _
    refine wret ?_
    have hc : ¬ a.length = b.length := by simp at hc1; omega
    simp [C.laws_ints]
    intro e; simp [e] at hc
  · refine wskip ?_
    show AWp _ _ _ _ _
    refine wseq ?_
    refine wseq ?_
    refine wreg fun K hK => ?_
    simp [C.laws_ints]
    refine hK _ ?_; clear hK K
    show AWp _ _ _ _ _
    refine wblock ?_
    have e : a.length = b.length := by simp at hc1; omega
    refine wloop (fun k : Nat => ⟨ofL [(0, .d (shI a)), (1, .d (shI b)), (5, FV.int k)], ofRO []⟩) (fun k => k ≤ a.length ∧ a.take k = b.take k) (fun k => a.length - k) 0 (by simp [C.laws_ints]) (by simp) ?_
    intro x1 hx1 R1 hR1
    obtain ⟨hk, ht⟩ := hx1
    refine wseq ?_
    refine wseq ?_
    refine wreg fun K hK => ?_
    simp [C.laws_ints]
    refine hK _ ?_; clear hK K
    show AWp _ _ _ _ _
    refine wcond _ rfl (fun hc2 => ?_) (fun hc2 => ?_)
    · refine wskip ?_
      show AWp _ _ _ _ _
      refine wseq ?_
      refine wblock ?_
      refine wseq ?_
      have h1 : x1 < a.length := by simpa using hc2
      have h2 : x1 < b.length := by omega
      refine wdraw (.take 0 (.take 1 (.take 2 (.take 3 (.take 4 (.take 5 (.take 6 (.take 7 (.take 8 (.done)))))))))) ⟨by kernel_rfl, by kernel_rfl⟩ fun K hK => ?_
      simp [C.laws_ints, h1, h2, get_ints]
      refine hK _ ?_; clear hK K
      show AWp _ _ _ _ _
      refine wcond _ rfl (fun hc3 => ?_) (fun hc3 => ?_)
      · refine wseq ?_
        refine wreg fun K hK => ?_
        simp [C.laws_ints]
        refine hK _ ?_; clear hK K
        show AWp _ _ _ _ _
        refine wret ?_
        have hc : ¬ a[x1] = b[x1] := by simpa using hc3
        simp [C.laws_ints]
        intro e2
        subst e2
        exact hc rfl
      · refine wskip ?_
        show AWp _ _ _ _ _
        refine wreg fun K hK => ?_
        simp [C.laws_ints, wrap_succ (show x1 < 4611686018427387904 by omega)]
        refine hK _ ?_; clear hK K
        simp [C.laws_ints]
        have hc : a[x1] = b[x1] := by simpa using hc3
        refine hR1 (x1 + 1) ⟨h1, ?_⟩ (by omega)
        rw [List.take_succ_eq_append_getElem h1, List.take_succ_eq_append_getElem h2, ht, hc]
    · refine wexit ?_
      show AWp _ _ _ _ _
      refine wseq ?_
      refine wreg fun K hK => ?_
      simp [C.laws_ints]
      refine hK _ ?_; clear hK K
      show AWp _ _ _ _ _
      refine wret ?_
      have hk2 : x1 = a.length := by simp at hc2; omega
      simp [C.laws_ints]
      rw [hk2, List.take_length, e, List.take_length] at ht
      exact ht

theorem laws_laurents_calls (f g : Lau) (hx : f.ts.length < 4611686018427387904) (hxe : ∀ t ∈ f.ts, t.e.length < 4611686018427387904) : ACalls Try.prog F.laws_laurents [aF f, aF g] [] true (fun outs res => outs = [] ∧ res = [.one (D.bool (decide (f = g)))]) := by
  refine ACalls.of_body (C := C.laws_laurents) (n := Try.f14.ntmps) tabT folT Try.func14 rfl (by kernel_rfl) rfl (Nat.le_of_ble_eq_true rfl) (by decide) (by kernel_rfl) (by kernel_rfl) rfl (by simp) (by simp) ?_
  simp only [Try.f14]
  refine wseq ?_
  refine wreg fun K hK => ?_
  simp [C.laws_laurents, fS]
  refine hK _ ?_; clear hK K
  show AWp _ _ _ _ _
  refine wseq ?_
  refine wseq ?_
  refine wregI ([0, 1, 2, 3, 4, 5, 6, 7, 8, 9, 10, 11, 12, 13]) rfl fun K hK => ?_
  have hJ : K ⟨ofL [(2, .pt (2, 0) [] 0), (3, .pt (3, 0) [] 0), (19, .bool (!decide (f.v = g.v ∧ (f.ts.length : Int) = g.ts.length)))], ofRO [((2, 0), some (.bx (fS f))), ((3, 0), some (.bx (fS g)))]⟩ := by
    refine hK _ ?_; clear hK K
    show AWp _ _ _ _ _
    refine wcond _ rfl (fun hc1 => ?_) (fun hc1 => ?_)
    · have hc := nd_t hc1
      refine wseq ?_
      refine wreg fun K hK => ?_
      simp [C.laws_laurents, fS]
      refine hK _ ?_; clear hK K
      show AWp _ _ _ _ _
      refine wret ?_
      simp [C.laws_laurents, fS]
      intro e
      subst e
      exact hc ⟨rfl, rfl⟩
    · have hc0 := nd_f hc1
      have hc : f.v = g.v ∧ f.ts.length = g.ts.length := ⟨hc0.1, by have := hc0.2; omega⟩
      refine wskip ?_
      show AWp _ _ _ _ _
      refine wseq ?_
      refine wseq ?_
      refine wreg fun K hK => ?_
      simp [C.laws_laurents, fS]
      refine hK _ ?_; clear hK K
      show AWp _ _ _ _ _
      refine wblock ?_
      refine wloop (fun k : Nat => ⟨ofL [(2, .pt (2, 0) [] 0), (3, .pt (3, 0) [] 0), (5, FV.int k)], ofRO [((2, 0), some (.bx (fS f))), ((3, 0), some (.bx (fS g)))]⟩) (fun k => k ≤ f.ts.length ∧ f.ts.take k = g.ts.take k) (fun k => f.ts.length - k) 0 (by simp [C.laws_laurents, fS]) (by simp) ?_
      intro x1 hx1 R1 hR1
      obtain ⟨hk, ht⟩ := hx1
      refine wseq ?_
      refine wseq ?_
      refine wreg fun K hK => ?_
      simp [C.laws_laurents, fS]
      refine hK _ ?_; clear hK K
      show AWp _ _ _ _ _
      refine wcond _ rfl (fun hc2 => ?_) (fun hc2 => ?_)
      · have h1 : x1 < f.ts.length := by have := d_t hc2; omega
        have h2 : x1 < g.ts.length := by omega
        refine wskip ?_
        show AWp _ _ _ _ _
        refine wseq ?_
        refine wblock ?_
        refine wseq ?_
        refine wdrawI [(true, 0), (true, 1), (true, 2), (true, 3), (true, 4), (true, 5), (true, 6), (true, 7), (true, 8), (true, 9), (true, 10), (true, 11), (true, 12), (true, 13), (true, 14), (true, 15), (true, 16), (true, 17), (true, 18), (true, 19), (true, 20), (true, 21), (true, 22), (true, 23), (true, 24), (true, 25), (false, 26), (true, 27), (true, 28)] ⟨by kernel_rfl, by kernel_rfl⟩ ([0, 1, 2, 3, 4, 5, 6, 7, 8, 9, 10, 11, 12, 13, 14, 15, 16, 17, 18, 19, 20, 21, 22, 23, 24, 25, 26] ++ ([27, 28])) rfl fun K hK => ?_
        have hJ : K ⟨ofL [(2, .pt (2, 0) [] 0), (3, .pt (3, 0) [] 0), (5, FV.int x1), (55, .bool (!decide (f.ts[x1].c = g.ts[x1].c ∧ f.ts[x1].e = g.ts[x1].e)))], ofRO [((2, 0), some (.bx (fS f))), ((3, 0), some (.bx (fS g)))]⟩ := by
          refine hK _ ?_; clear hK K
          show AWp _ _ _ _ _
          refine wcond _ rfl (fun hc3 => ?_) (fun hc3 => ?_)
          · have hb := nd_t hc3
            refine wseq ?_
            refine wreg fun K hK => ?_
            simp [C.laws_laurents, fS]
            refine hK _ ?_; clear hK K
            show AWp _ _ _ _ _
            refine wret ?_
            simp [C.laws_laurents, fS]
            intro e
            subst e
            exact hb ⟨rfl, rfl⟩
          · have hb := nd_f hc3
            refine wskip ?_
            show AWp _ _ _ _ _
            refine wreg fun K hK => ?_
            simp [C.laws_laurents, fS, wrap_succ (show x1 < 4611686018427387904 by omega)]
            refine hK _ ?_; clear hK K
            simp [C.laws_laurents, fS]
            refine hR1 (x1 + 1) ⟨h1, ?_⟩ (by omega)
            have he : f.ts[x1] = g.ts[x1] := by
              cases hf : f.ts[x1]
              cases hg : g.ts[x1]
              simp only [hf, hg] at hb
              simp [hb.1, hb.2]
            rw [List.take_succ_eq_append_getElem h1, List.take_succ_eq_append_getElem h2, ht, he]
        clear hK
        by_cases ha : f.ts[x1].c = g.ts[x1].c
        · refine opsI_seg fun L hL => ?_
          simp [C.laws_laurents, fS, h1, h2, tS_0 h1, tS_1 h1, tS_0 h2, tS_1 h2, ha]
          refine wcall1 (laws_ints_calls f.ts[x1].e g.ts[x1].e (hxe _ (List.getElem_mem h1))) (by simp) (by simp) ?_
          simp [C.laws_laurents, fS, h1, h2, tS_0 h1, tS_1 h1, tS_0 h2, tS_1 h2, ha]
          refine hL _ ?_; clear hL L
          refine opsI_end fun L hL => ?_
          simp [C.laws_laurents, fS, h1, h2, tS_0 h1, tS_1 h1, tS_0 h2, tS_1 h2, ha]
          refine hL _ ?_; clear hL L
          simp [C.laws_laurents, fS, h1, h2, tS_0 h1, tS_1 h1, tS_0 h2, tS_1 h2, ha]
          refine cast (congrArg K ?_) hJ
          simp [ibne, fS, ha]
        · refine opsI_seg fun L hL => ?_
          simp [C.laws_laurents, fS, h1, h2, tS_0 h1, tS_1 h1, tS_0 h2, tS_1 h2, ha]
          refine hL _ ?_; clear hL L
          refine opsI_end fun L hL => ?_
          simp [C.laws_laurents, fS, h1, h2, tS_0 h1, tS_1 h1, tS_0 h2, tS_1 h2, ha]
          refine hL _ ?_; clear hL L
          simp [C.laws_laurents, fS, h1, h2, tS_0 h1, tS_1 h1, tS_0 h2, tS_1 h2, ha]
          refine cast (congrArg K ?_) hJ
          simp [ibne, fS, ha]
      · have h1 : x1 = f.ts.length := by have := d_f hc2; omega
        refine wexit ?_
        show AWp _ _ _ _ _
        refine wseq ?_
        refine wreg fun K hK => ?_
        simp [C.laws_laurents, fS]
        refine hK _ ?_; clear hK K
        show AWp _ _ _ _ _
        refine wret ?_
        simp [C.laws_laurents, fS]
        rw [h1, List.take_length, hc.2, List.take_length] at ht
        cases f
        cases g
        simp only at hc ht
        simp [hc.1, ht]
  clear hK
  by_cases ha : f.v = g.v
  · refine opsI_end fun L hL => ?_
    simp [C.laws_laurents, fS, ha]
    refine hL _ ?_; clear hL L
    simp [C.laws_laurents, fS, ha]
    refine cast (congrArg K ?_) hJ
    simp [ibne, fS, ha]
  · refine opsI_end fun L hL => ?_
    simp [C.laws_laurents, fS, ha]
    refine hL _ ?_; clear hL L
    simp [C.laws_laurents, fS, ha]
    refine cast (congrArg K ?_) hJ
    simp [ibne, fS, ha]

end Go.Proofs.Ytocknokodgnlbaa.Ab
namespace Go.Proofs.Ytocknokodgnlbaa.Ab
open Go
set_option linter.unusedSimpArgs false
set_option linter.unusedVariables false
set_option maxRecDepth 10000
set_option maxHeartbeats 2000000
attribute [local simp] cur
def DrawBo (xs : List Int) (outs : List D) (res : List RV) : Prop := ∃ (i' : Nat) (h' : Int) (b : Bool), i' ≤ xs.length ∧ outs = [cur xs i' h'] ∧ res = [.one (D.bool b)]
def bitI (b : Bool) : Int := if b then 1 else 0
theorem bitI_bd (b : Bool) : 0 ≤ bitI b ∧ bitI b ≤ 1 := by cases b <;> simp [bitI]
def DrawP (outs : List D) (res : List RV) : Prop := ∃ ys : List Int, ys.length = 8 ∧ (∀ y ∈ ys, -1 ≤ y ∧ y ≤ 30000) ∧ outs = [] ∧ res = [.one (owI ys)]
theorem spec_l1BelowG_calls (xs : List Int) (i : Nat) (h n : Int) (hi : i ≤ xs.length) (hx : xs.length ≤ 1048576) (hn : 256 < n ∧ n ≤ 1000000) : ACalls Try.prog F.spec_l1Below [.pt (0, 0) [] 0, .int n] [((0, 0), cur xs i h)] false (DrawI xs (fun r => 0 ≤ r ∧ r < n)) := by
  refine ACalls.of_body (C := C.spec_l1Below) (n := Try.f50.ntmps) tabT folT Try.func50 rfl (by kernel_rfl) rfl (Nat.le_of_ble_eq_true rfl) (by decide) (by kernel_rfl) (by kernel_rfl) rfl (by simp) (by simp) ?_
  simp only [Try.f50]
  refine wseq ?_
  refine wreg fun K hK => ?_
  simp [C.spec_l1Below, cur]
  refine hK _ ?_; clear hK K
  show AWp _ _ _ _ _
  refine wseq ?_
  refine wseq ?_
  refine wreg fun K hK => ?_
  simp [C.spec_l1Below, cur]
  refine hK _ ?_; clear hK K
  show AWp _ _ _ _ _
  refine wcond _ rfl (fun hc1 => ?_) (fun hc1 => ?_)
  · have := d_t hc1; omega
  · refine wskip ?_
    show AWp _ _ _ _ _
    refine wseq ?_
    refine wseq ?_
    refine wreg fun K hK => ?_
    simp [C.spec_l1Below, cur]
    refine hK _ ?_; clear hK K
    show AWp _ _ _ _ _
    refine wcond _ rfl (fun hc2 => ?_) (fun hc2 => ?_)
    · have := d_t hc2; omega
    · refine wskip ?_
      show AWp _ _ _ _ _
      refine wseq ?_
      refine wregI ([0, 1] ++ ([2])) rfl fun K hK => ?_
      refine opsI_seg fun L hL => ?_
      simp [C.spec_l1Below, cur]
      refine wcall (spec_l1Byte_calls xs i h hi hx) (by simp) (by simp) (by simp) ?_
      rintro outs res ⟨i1, h1, u1, p1, q1, rfl, rfl⟩
      simp [C.spec_l1Below, cur]
      refine hL _ ?_; clear hL L
      refine opsI_end fun L hL => ?_
      simp [C.spec_l1Below, cur]
      refine hL _ ?_; clear hL L
      simp [C.spec_l1Below, cur]
      refine hK _ ?_; clear hK K
      show AWp _ _ _ _ _
      refine wseq ?_
      refine wregI ([0, 1] ++ ([2])) rfl fun K hK => ?_
      refine opsI_seg fun L hL => ?_
      simp [C.spec_l1Below, cur]
      refine wcall (spec_l1Byte_calls xs i1 h1 p1 hx) (by simp) (by simp) (by simp) ?_
      rintro outs res ⟨i2, h2, u2, p2, q2, rfl, rfl⟩
      simp [C.spec_l1Below, cur]
      refine hL _ ?_; clear hL L
      refine opsI_end fun L hL => ?_
      simp [C.spec_l1Below, cur]
      refine hL _ ?_; clear hL L
      simp [C.spec_l1Below, cur]
      refine hK _ ?_; clear hK K
      show AWp _ _ _ _ _
      refine wseq ?_
      refine wregI ([0, 1] ++ ([2])) rfl fun K hK => ?_
      refine opsI_seg fun L hL => ?_
      simp [C.spec_l1Below, cur]
      refine wcall (spec_l1Byte_calls xs i2 h2 p2 hx) (by simp) (by simp) (by simp) ?_
      rintro outs res ⟨i3, h3, u3, p3, q3, rfl, rfl⟩
      simp [C.spec_l1Below, cur]
      refine hL _ ?_; clear hL L
      refine opsI_end fun L hL => ?_
      simp [C.spec_l1Below, cur]
      refine hL _ ?_; clear hL L
      simp [C.spec_l1Below, cur]
      refine hK _ ?_; clear hK K
      show AWp _ _ _ _ _
      refine wseq ?_
      refine wregI ([0, 1] ++ ([2])) rfl fun K hK => ?_
      refine opsI_seg fun L hL => ?_
      simp [C.spec_l1Below, cur]
      refine wcall (spec_l1Byte_calls xs i3 h3 p3 hx) (by simp) (by simp) (by simp) ?_
      rintro outs res ⟨i4, h4, u4, p4, q4, rfl, rfl⟩
      simp [C.spec_l1Below, cur]
      refine hL _ ?_; clear hL L
      refine opsI_end fun L hL => ?_
      simp [C.spec_l1Below, cur]
      refine hL _ ?_; clear hL L
      simp [C.spec_l1Below, cur]
      refine hK _ ?_; clear hK K
      show AWp _ _ _ _ _
      refine wseq ?_
      refine wregI ([0, 1, 2, 3, 4, 5, 6, 7, 8, 9, 10, 11, 12]) rfl fun K hK => ?_
      refine opsI_end fun L hL => ?_
      simp [C.spec_l1Below, cur, show ¬ n = 0 by omega, wrapOk (x := u1 * 16777216) (by omega) (by omega), wrapOk (x := u2 * 65536) (by omega) (by omega), wrapOk (x := u3 * 256) (by omega) (by omega), wrapOk (x := u1 * 16777216 + u2 * 65536) (by omega) (by omega), wrapOk (x := u1 * 16777216 + u2 * 65536 + u3 * 256) (by omega) (by omega), wrapOk (x := u1 * 16777216 + u2 * 65536 + u3 * 256 + u4) (by omega) (by omega)]
      refine hL _ ?_; clear hL L
      simp [C.spec_l1Below, cur, show ¬ n = 0 by omega, wrapOk (x := u1 * 16777216) (by omega) (by omega), wrapOk (x := u2 * 65536) (by omega) (by omega), wrapOk (x := u3 * 256) (by omega) (by omega), wrapOk (x := u1 * 16777216 + u2 * 65536) (by omega) (by omega), wrapOk (x := u1 * 16777216 + u2 * 65536 + u3 * 256) (by omega) (by omega), wrapOk (x := u1 * 16777216 + u2 * 65536 + u3 * 256 + u4) (by omega) (by omega)]
      refine hK _ ?_; clear hK K
      show AWp _ _ _ _ _
      refine wret ?_
      simp [C.spec_l1Below, cur]
      exact ⟨i4, h4, (u1 * 16777216 + u2 * 65536 + u3 * 256 + u4).tmod n, p4, ⟨Int.tmod_nonneg _ (by omega), Int.tmod_lt_of_pos _ (by omega)⟩, rfl, rfl⟩

theorem spec_l1Bit_calls (b : Bool) : ACalls Try.prog F.spec_l1Bit [.bool b] [] true (fun outs res => outs = [] ∧ res = [.one (D.int (bitI b))]) := by
  refine ACalls.of_body (C := C.spec_l1Bit) (n := Try.f128.ntmps) tabT folT Try.func128 rfl (by kernel_rfl) rfl (Nat.le_of_ble_eq_true rfl) (by decide) (by kernel_rfl) (by kernel_rfl) rfl (by simp) (by simp) ?_
  simp only [Try.f128]
  refine wseq ?_
  refine wreg fun K hK => ?_
  simp [C.spec_l1Bit]
  refine hK _ ?_; clear hK K
  show AWp _ _ _ _ _
  refine wseq ?_
  refine wseq ?_
  refine wreg fun K hK => ?_
  simp [C.spec_l1Bit]
  refine hK _ ?_; clear hK K
  show AWp _ _ _ _ _
  refine wcond _ rfl (fun hc1 => ?_) (fun hc1 => ?_)
  · have hb : b = true := by simpa using hc1
    refine wseq ?_
    refine wreg fun K hK => ?_
    simp [C.spec_l1Bit]
    refine hK _ ?_; clear hK K
    show AWp _ _ _ _ _
    refine wret ?_
    simp [C.spec_l1Bit, bitI, hb]
  · have hb : b = false := by simpa using hc1
    refine wskip ?_
    show AWp _ _ _ _ _
    refine wseq ?_
    refine wreg fun K hK => ?_
    simp [C.spec_l1Bit]
    refine hK _ ?_; clear hK K
    show AWp _ _ _ _ _
    refine wret ?_
    simp [C.spec_l1Bit, bitI, hb]

theorem spec_l1Once_calls (xs : List Int) (i : Nat) (h n : Int) (hi : i ≤ xs.length) (hx : xs.length ≤ 1048576) (hn : 0 < n ∧ n ≤ 256) : ACalls Try.prog F.spec_l1Once [.pt (0, 0) [] 0, .int n] [((0, 0), cur xs i h)] false (DrawBo xs) := by
  refine ACalls.of_body (C := C.spec_l1Once) (n := Try.f129.ntmps) tabT folT Try.func129 rfl (by kernel_rfl) rfl (Nat.le_of_ble_eq_true rfl) (by decide) (by kernel_rfl) (by kernel_rfl) rfl (by simp) (by simp) ?_
  simp only [Try.f129]
  refine wseq ?_
  refine wreg fun K hK => ?_
  simp [C.spec_l1Once, cur]
  refine hK _ ?_; clear hK K
  show AWp _ _ _ _ _
  refine wseq ?_
  refine wregI ([0, 1, 2] ++ ([3, 4])) rfl fun K hK => ?_
  refine opsI_seg fun L hL => ?_
  simp [C.spec_l1Once, cur]
  refine wcall (spec_l1Below_calls xs i h n hi hx hn) (by simp) (by simp) (by simp) ?_
  rintro outs res ⟨i', h', r, q1, q2, rfl, rfl⟩
  simp [C.spec_l1Once, cur]
  refine hL _ ?_; clear hL L
  refine opsI_end fun L hL => ?_
  simp [C.spec_l1Once, cur]
  refine hL _ ?_; clear hL L
  simp [C.spec_l1Once, cur]
  refine hK _ ?_; clear hK K
  show AWp _ _ _ _ _
  refine wret ?_
  simp [C.spec_l1Once, cur]
  exact ⟨i', h', _, q1, rfl, rfl⟩

theorem spec_dValues_calls (xs : List Int) (i : Nat) (h : Int) (n : Nat) (hi : i ≤ xs.length) (hx : xs.length ≤ 1048576) (hn : n ≤ 8) : ACalls Try.prog F.spec_dValues [.pt (0, 0) [] 0, .int n] [((0, 0), cur xs i h)] false (DrawE xs (fun e => e.length = n ∧ ∀ x ∈ e, -1 ≤ x ∧ x ≤ 30000)) := by
  refine ACalls.of_body (C := C.spec_dValues) (n := Try.f64.ntmps) tabT folT Try.func64 rfl (by kernel_rfl) rfl (Nat.le_of_ble_eq_true rfl) (by decide) (by kernel_rfl) (by kernel_rfl) rfl (by simp) (by simp) ?_
  simp only [Try.f64]
  refine wseq ?_
  refine wreg fun K hK => ?_
  simp [C.spec_dValues, cur]
  refine hK _ ?_; clear hK K
  show AWp _ _ _ _ _
  refine wseq ?_
  refine wreg fun K hK => ?_
  simp [C.spec_dValues, cur]
  refine hK _ ?_; clear hK K
  show AWp _ _ _ _ _
  refine wseq ?_
  refine wseq ?_
  refine wreg fun K hK => ?_
  simp [C.spec_dValues, cur]
  refine hK _ ?_; clear hK K
  show AWp _ _ _ _ _
  refine wblock ?_
  refine wloop (fun x : Nat × List Int × Nat × Int => ⟨ofL [(0, .pt (0, 0) [] 0), (1, .int n), (5, .al (5, 0) [] 0 x.1), (6, .int x.1), (1000, .pt (0, 0) [] 0)], ofRO [((0, 0), some (cur xs x.2.2.1 x.2.2.2)), ((5, 0), some (.ow 1 x.1 (ints x.2.1)))]⟩) (fun x => x.1 ≤ n ∧ x.2.1.length = x.1 ∧ (∀ y ∈ x.2.1, -1 ≤ y ∧ y ≤ 30000) ∧ x.2.2.1 ≤ xs.length) (fun x => n - x.1) (0, [], i, h) (by simp [C.spec_dValues, ints]) ⟨by simp, rfl, by simp, hi⟩ ?_
  intro x1 hx1 R1 hR1
  obtain ⟨j, e, i1, h1⟩ := x1
  obtain ⟨g1, g2, g3, g4⟩ := hx1
  dsimp only at g1 g2 g3 g4 ⊢
  refine wseq ?_
  refine wseq ?_
  refine wreg fun K hK => ?_
  simp [C.spec_dValues, cur]
  refine hK _ ?_; clear hK K
  show AWp _ _ _ _ _
  refine wcond _ rfl (fun hc1 => ?_) (fun hc1 => ?_)
  · have hj : j < n := by have := d_t hc1; omega
    refine wskip ?_
    show AWp _ _ _ _ _
    refine wseq ?_
    refine wblock ?_
    refine wregI ([0, 1, 2] ++ ([3, 4, 5] ++ ([6] ++ ([7, 8, 9, 10, 11])))) rfl fun K hK => ?_
    refine opsI_seg fun L hL => ?_
    simp [C.spec_dValues, cur, ints_snocA, show (j + 1) * 8 ≤ 140737488355328 by omega]
    refine wcall (spec_l1BelowG_calls xs i1 h1 30000 g4 hx (by omega)) (by simp) (by simp) (by simp) ?_
    rintro outs res ⟨i2, h2, r, q1, q2, rfl, rfl⟩
    simp [C.spec_dValues, cur, ints_snocA, show (j + 1) * 8 ≤ 140737488355328 by omega]
    refine hL _ ?_; clear hL L
    refine opsI_seg fun L hL => ?_
    simp [C.spec_dValues, cur, ints_snocA, show (j + 1) * 8 ≤ 140737488355328 by omega]
    refine wcall (spec_l1Once_calls xs i2 h2 30 q1 hx (by omega)) (by simp) (by simp) (by simp) ?_
    rintro outs res ⟨i3, h3, b, q3, rfl, rfl⟩
    simp [C.spec_dValues, cur, ints_snocA, show (j + 1) * 8 ≤ 140737488355328 by omega]
    refine hL _ ?_; clear hL L
    refine opsI_seg fun L hL => ?_
    simp [C.spec_dValues, cur, ints_snocA, show (j + 1) * 8 ≤ 140737488355328 by omega]
    refine wcall1 (spec_l1Bit_calls b) (by simp) (by simp) ?_
    simp [C.spec_dValues, cur, ints_snocA, show (j + 1) * 8 ≤ 140737488355328 by omega]
    refine hL _ ?_; clear hL L
    refine opsI_end fun L hL => ?_
    simp [C.spec_dValues, cur, ints_snocA, show (j + 1) * 8 ≤ 140737488355328 by omega]
    refine hL _ ?_; clear hL L
    simp [C.spec_dValues, cur, ints_snocA, show (j + 1) * 8 ≤ 140737488355328 by omega]
    refine hK _ ?_; clear hK K
    show AWp _ _ _ _ _
    refine wreg fun K hK => ?_
    simp [C.spec_dValues, cur, wrap_succ (show j < 4611686018427387904 by omega)]
    refine hK _ ?_; clear hK K
    simp [C.spec_dValues, cur]
    have hb := bitI_bd b
    rw [wrapOk (x := 1 + r) (by omega) (by omega), wrapOk (x := 2 * bitI b) (by omega) (by omega), wrapOk (x := 1 + r - 2 * bitI b) (by omega) (by omega)]
    refine hR1 (j + 1, e ++ [1 + r - 2 * bitI b], i3, h3) ⟨hj, by dsimp only; simp; omega, ?_, q3⟩ (by dsimp only; omega)
    dsimp only
    intro y hy
    rcases List.mem_append.1 hy with hy | hy
    · exact g3 y hy
    · simp only [List.mem_singleton] at hy
      omega
  · have hj : j = n := by have := d_f hc1; omega
    refine wexit ?_
    show AWp _ _ _ _ _
    refine wseq ?_
    refine wreg fun K hK => ?_
    simp [C.spec_dValues, cur]
    refine hK _ ?_; clear hK K
    show AWp _ _ _ _ _
    refine wret ?_
    simp [C.spec_dValues, cur]
    exact ⟨i1, h1, e, g4, ⟨by omega, g3⟩, by simp [hj, g2, owI]⟩

theorem spec_DrawPlaces_calls (xs : List Int) (hx : xs.length ≤ 1048576) : ACalls Try.prog F.spec_DrawPlaces [.d (.sh 1 xs.length (byts xs))] [] false DrawP := by
  refine ACalls.of_body (C := C.spec_DrawPlaces) (n := Try.f17.ntmps) tabT folT Try.func17 rfl (by kernel_rfl) rfl (Nat.le_of_ble_eq_true rfl) (by decide) (by kernel_rfl) (by kernel_rfl) rfl (by simp) (by simp) ?_
  simp only [Try.f17]
  refine wseq ?_
  refine wreg fun K hK => ?_
  simp [C.spec_DrawPlaces, cur]
  refine hK _ ?_; clear hK K
  show AWp _ _ _ _ _
  refine wseq ?_
  refine wregI ([0, 1] ++ ([2])) rfl fun K hK => ?_
  refine opsI_seg fun L hL => ?_
  simp [C.spec_DrawPlaces, cur]
  refine wcall (spec_l1New_calls xs hx) (by simp) (by simp) (by simp) ?_
  rintro outs res ⟨rfl, h0, rfl⟩
  simp [C.spec_DrawPlaces, cur]
  refine hL _ ?_; clear hL L
  refine opsI_end fun L hL => ?_
  simp [C.spec_DrawPlaces, cur]
  refine hL _ ?_; clear hL L
  simp [C.spec_DrawPlaces, cur]
  refine hK _ ?_; clear hK K
  show AWp _ _ _ _ _
  refine wseq ?_
  refine wregI ([0, 1] ++ ([2])) rfl fun K hK => ?_
  refine opsI_seg fun L hL => ?_
  simp [C.spec_DrawPlaces, cur]
  refine wcall (spec_dValues_calls xs 0 h0 8 (by omega) hx (by omega)) (by simp) (by simp) (by simp) ?_
  rintro outs res ⟨i1, h1, ys, q1, ⟨q2, q3⟩, rfl, rfl⟩
  simp [C.spec_DrawPlaces, cur]
  refine hL _ ?_; clear hL L
  refine opsI_end fun L hL => ?_
  simp [C.spec_DrawPlaces, cur]
  refine hL _ ?_; clear hL L
  simp [C.spec_DrawPlaces, cur]
  refine hK _ ?_; clear hK K
  show AWp _ _ _ _ _
  refine wret ?_
  simp [C.spec_DrawPlaces, cur]
  exact ⟨ys, q2, q3, rfl, by simp [owI, q2]⟩

end Go.Proofs.Ytocknokodgnlbaa.Ab
namespace Go.Proofs.Ytocknokodgnlbaa.Ab
open Go
set_option linter.unusedSimpArgs false
set_option linter.unusedVariables false
section
variable {K : Type} [DecidableEq K] {lt : K → K → Bool} {mul : K → K → K}
def vl (φ : K → Int) : List (K × Int) → Int
  | [] => 0
  | x :: l => x.2 * φ x.1 + vl φ l
omit [DecidableEq K] in
theorem vl_app (φ : K → Int) : ∀ l r : List (K × Int), vl φ (l ++ r) = vl φ l + vl φ r
  | [], r => by simp [vl]
  | x :: l, r => by simp only [List.cons_append, vl, vl_app φ l r]; omega
theorem vl_insK (φ : K → Int) (k : K) (c : Int) : ∀ l : List (K × Int), vl φ (insK lt k c l) = c * φ k + vl φ l
  | [] => by
    simp only [insK]
    split
    · rename_i h; simp [vl, h]
    · simp [vl]
  | x :: l => by
    simp only [insK]
    split
    · rename_i h
      subst h
      split
      · rename_i h2
        have : c = -x.2 := by omega
        subst this
        simp only [vl, Int.neg_mul]
        omega
      · simp only [vl, Int.add_mul]
        omega
    · split
      · split
        · rename_i h; simp [vl, h]
        · simp only [vl]
      · simp only [vl, vl_insK φ k c l]
        omega
theorem vl_nf (φ : K → Int) : ∀ l : List (K × Int), vl φ (nf lt l) = vl φ l
  | [] => rfl
  | x :: l => by simp only [nf, vl_insK, vl_nf φ l, vl]
theorem co_vl (k : K) : ∀ l : List (K × Int), co k l = vl (fun e => if e = k then 1 else 0) l
  | [] => rfl
  | x :: l => by
    simp only [co, vl, co_vl k l]
    split <;> simp
theorem nf_vl (ho : Ord lt) {l r : List (K × Int)} (h : ∀ φ, vl φ l = vl φ r) : nf lt l = nf lt r :=
  nf_unique ho (nf_desc ho _) (nf_nz _) fun k => by rw [nf_co, co_vl, co_vl, h]
omit [DecidableEq K] in
theorem vl_congr {φ ψ : K → Int} : ∀ {l : List (K × Int)}, (∀ x ∈ l, φ x.1 = ψ x.1) → vl φ l = vl ψ l
  | [], _ => rfl
  | x :: l, h => by
    simp only [vl, h x (by simp), vl_congr (l := l) fun y hy => h y (by simp [hy])]
omit [DecidableEq K] in
theorem vl_add (φ ψ : K → Int) : ∀ l : List (K × Int), vl (fun e => φ e + ψ e) l = vl φ l + vl ψ l
  | [] => rfl
  | x :: l => by
    simp only [vl, vl_add φ ψ l, Int.mul_add]
    omega
omit [DecidableEq K] in
theorem vl_mul (c : Int) (φ : K → Int) : ∀ l : List (K × Int), vl (fun e => c * φ e) l = c * vl φ l
  | [] => by simp [vl]
  | x :: l => by
    simp only [vl, vl_mul c φ l, Int.mul_add]
    rw [Int.mul_left_comm]
omit [DecidableEq K] in
theorem vl_zero : ∀ l : List (K × Int), vl (fun _ => 0) l = 0
  | [] => rfl
  | x :: l => by simp [vl, vl_zero l]
omit [DecidableEq K] in
theorem vl_fub {J : Type} (φ : K → J → Int) (b : List (J × Int)) : ∀ a : List (K × Int), vl (fun e => vl (fun e' => φ e e') b) a = vl (fun e' => vl (fun e => φ e e') a) b
  | [] => by
    simp only [vl]
    rw [vl_zero]
  | x :: a => by
    simp only [vl]
    rw [vl_add, vl_mul, vl_fub φ b a]
omit [DecidableEq K] in
theorem vl_map (g : K → K) (q : Int) (φ : K → Int) : ∀ l : List (K × Int), vl φ (l.map fun y => (g y.1, q * y.2)) = q * vl (fun e => φ (g e)) l
  | [] => by simp [vl]
  | x :: l => by
    simp only [List.map_cons, vl, vl_map g q φ l, Int.mul_add, Int.mul_assoc]
omit [DecidableEq K] in
theorem vl_prodK (φ : K → Int) (g : List (K × Int)) : ∀ a : List (K × Int), vl φ (prodK mul a g) = vl (fun e => vl (fun e' => φ (mul e e')) g) a
  | [] => rfl
  | x :: a => by
    have := vl_prodK φ g a
    unfold prodK at this ⊢
    simp only [List.flatMap_cons, vl_app, vl, this]
    unfold mulT
    rw [vl_map]
theorem vl_prod_nfL (φ : K → Int) (a g : List (K × Int)) : vl φ (prodK mul (nf lt a) g) = vl φ (prodK mul a g) := by rw [vl_prodK, vl_prodK, vl_nf]
omit [DecidableEq K] in
theorem vl_prod_com {D : K → Prop} (hc : ∀ a b, D a → D b → mul a b = mul b a) (φ : K → Int) {a b : List (K × Int)} (ha : ∀ x ∈ a, D x.1) (hb : ∀ x ∈ b, D x.1) : vl φ (prodK mul a b) = vl φ (prodK mul b a) := by
  rw [vl_prodK, vl_prodK, vl_fub]
  exact vl_congr fun x hx => vl_congr fun y hy => by rw [hc _ _ (ha y hy) (hb x hx)]
omit [DecidableEq K] in
omit [DecidableEq K] in
theorem vl_prod_addL (φ : K → Int) (a b g : List (K × Int)) : vl φ (prodK mul (a ++ b) g) = vl φ (prodK mul a g) + vl φ (prodK mul b g) := by
  rw [vl_prodK, vl_prodK, vl_prodK, vl_app]
end
end Go.Proofs.Ytocknokodgnlbaa.Ab
namespace Go.Proofs.Ytocknokodgnlbaa.Ab
open Go
set_option linter.unusedSimpArgs false
set_option linter.unusedVariables false
set_option maxRecDepth 10000
set_option maxHeartbeats 2000000
def prk (k : Int) (t : Trm) : List Int × Int := (t.e, k * t.c)
noncomputable def addF (f : Lau) (k : Int) (g : Lau) : Lau × Bool := if (Right f ∧ Right g ∧ f.v = g.v) ∧ (-1000 ≤ k ∧ k ≤ 1000) then shutF f.v (f.ts.map pr ++ g.ts.map (prk k)) else (zeroF, false)
theorem impl_AddLaurents_calls (f : Lau) (k : Int) (g : Lau) (hx : f.ts.length < 4611686018427387904) (hxe : ∀ t ∈ f.ts, t.e.length < 4611686018427387904) (hy : g.ts.length < 4611686018427387904) (hye : ∀ t ∈ g.ts, t.e.length < 4611686018427387904) : ACalls Try.prog F.impl_AddLaurents [aF f, .int k, aF g] [] true (fun outs res => outs = [] ∧ WkRs res [.ag (fO (addF f k g).1), .one (D.bool (addF f k g).2)]) := by
  refine ACalls.of_body (C := C.impl_AddLaurents) (n := Try.f18.ntmps) tabT folT Try.func18 rfl (by kernel_rfl) rfl (Nat.le_of_ble_eq_true rfl) (by decide) (by kernel_rfl) (by kernel_rfl) rfl (by simp) (by simp) ?_
  simp only [Try.f18]
  refine wseq ?_
  refine wreg fun K hK => ?_
  simp [C.impl_AddLaurents, fS]
  refine hK _ ?_; clear hK K
  show AWp _ _ _ _ _
  refine wseq ?_
  refine wseq ?_
  refine wregI ([0, 1, 2] ++ ([3, 4, 5, 6] ++ ([7, 8]))) rfl fun K hK => ?_
  have hJ : K ⟨ofL [(1, .int k), (3, .pt (3, 0) [] 0), (5, .pt (5, 0) [] 0), (6, .pt (6, 0) [] 0), (21, .bool (!decide ((Right f ∧ Right g ∧ f.v = g.v) ∧ (-1000 ≤ k ∧ k ≤ 1000))))], ofRO [((3, 0), some (.bx (fS f))), ((5, 0), some (.bx (fS g))), ((6, 0), some (.bx [D.int 0, .v (.slice none 0 0)]))]⟩ := by
    refine hK _ ?_; clear hK K
    show AWp _ _ _ _ _
    refine wcond _ rfl (fun hc1 => ?_) (fun hc1 => ?_)
    · have hr := nd_t hc1
      have hm : addF f k g = (zeroF, false) := if_neg hr
      refine wseq ?_
      refine wreg fun K hK => ?_
      simp [C.impl_AddLaurents, fS]
      refine hK _ ?_; clear hK K
      show AWp _ _ _ _ _
      refine wret ?_
      simp [C.impl_AddLaurents, fS, hm, fO, zeroF, rows]
    · have hr := nd_f hc1
      obtain ⟨⟨hf, hg, hfg⟩, hk⟩ := hr
      have hv := hf.1
      obtain ⟨n, hn⟩ : ∃ n : Nat, f.v = n := ⟨f.v.toNat, by omega⟩
      have hn2 : g.v = n := by omega
      have hn8 : n ≤ 8 := by omega
      have hfl := hf.2.1
      have hgl := hg.2.1
      have hm : addF f k g = shutF n (f.ts.map pr ++ g.ts.map (prk k)) := by
        unfold addF
        rw [if_pos ⟨⟨hf, hg, hfg⟩, hk⟩, hn]
      refine wskip ?_
      show AWp _ _ _ _ _
      refine wseq ?_
      refine wregI ([0, 1, 2] ++ ([3])) rfl fun K hK => ?_
      refine opsI_seg fun L hL => ?_
      simp [C.impl_AddLaurents, fS, hn]
      refine wcall1 (impl_newBuilding_calls n) (by simp) (by simp) ?_
      simp [C.impl_AddLaurents, fS, hn]
      refine hL _ ?_; clear hL L
      refine opsI_end fun L hL => ?_
      simp [C.impl_AddLaurents, fS, hn]
      refine hL _ ?_; clear hL L
      simp [C.impl_AddLaurents, fS, hn]
      refine hK _ ?_; clear hK K
      show AWp _ _ _ _ _
      refine wseq ?_
      refine wseq ?_
      refine wreg fun K hK => ?_
      simp [C.impl_AddLaurents, fS]
      refine hK _ ?_; clear hK K
      show AWp _ _ _ _ _
      refine wblock ?_
      refine wloop (fun x : Nat × List (List Int × Int) × List (List Int × Int) => ⟨ofL [(1, .int k), (5, .pt (5, 0) [] 0), (6, .pt (6, 0) [] 0), (8, .pt (8, 0) [] 0), (27, .d (.sh 2 f.ts.length (rows tS f.ts))), (28, .int f.ts.length), (29, .int x.1)], ofRO [((5, 0), some (.bx (fS g))), ((6, 0), some (.bx [D.int 0, .v (.slice none 0 0)])), ((8, 0), some (.bx [D.int n, .mp x.2.1]))]⟩) (fun x => x.1 ≤ f.ts.length ∧ MapR n x.2.1 x.2.2 ∧ x.2.2.Perm ((f.ts.take x.1).map pr) ∧ absE x.2.2 ≤ x.1 * 1000000) (fun x => f.ts.length - x.1) (0, [], []) (by simp [C.impl_AddLaurents, fS]) ⟨by simp, MapR.nil n, by simp, by simp [absE]⟩ ?_
      intro x1 hx1 R1 hR1
      obtain ⟨j, es, l⟩ := x1
      obtain ⟨hj, hM, hP, hA⟩ := hx1
      dsimp only at hj hM hP hA ⊢
      refine wseq ?_
      refine wreg fun K hK => ?_
      simp [C.impl_AddLaurents, fS]
      refine hK _ ?_; clear hK K
      show AWp _ _ _ _ _
      refine wseq ?_
      refine wcond _ rfl (fun hc2 => ?_) (fun hc2 => ?_)
      · have h1 : j < f.ts.length := by have := d_t hc2; omega
        have hT := right_dig hf hn _ (List.getElem_mem h1)
        refine wskip ?_
        show AWp _ _ _ _ _
        refine wseq ?_
        refine wblock ?_
        refine wseq ?_
        refine wreg fun K hK => ?_
        simp [C.impl_AddLaurents, fS, h1, tS_0 h1, tS_1 h1]
        refine hK _ ?_; clear hK K
        show AWp _ _ _ _ _
        obtain ⟨a0, a1, a2, a3, a4, a5, a6, a7, hpa⟩ := eight (pad_length (e := f.ts[j].e) (by omega))
        have hval := hM.val _ hT.1
        have hco := co_abs f.ts[j].e l
        refine wdrawI [(true, 0), (true, 1), (true, 2), (true, 4), (true, 5), (false, 3), (false, 6)] ⟨by kernel_rfl, by kernel_rfl⟩ ([0, 1, 2, 4, 5, 3] ++ ([6] ++ ([]))) rfl fun K hK => ?_
        refine opsI_seg fun L hL => ?_
        simp [C.impl_AddLaurents, fS, tS]
        refine wcall1 (impl_keyOf_calls f.ts[j].e (by omega) a0 a1 a2 a3 a4 a5 a6 a7 hpa) (by simp) (by simp) ?_
        simp [C.impl_AddLaurents, fS, tS]
        refine hL _ ?_; clear hL L
        refine opsI_seg fun L hL => ?_
        simp [C.impl_AddLaurents, fS, tS]
        refine wcall1 (impl_building_add_calls n f.ts[j].c es a0 a1 a2 a3 a4 a5 a6 a7 (hM.len8 hn8) (by rw [← hpa, hval]; have := hT.2.2.2; omega)) (by simp) (by simp) ?_
        simp [C.impl_AddLaurents, fS, tS]
        refine hL _ ?_; clear hL L
        refine opsI_end fun L hL => ?_
        simp only [AOpsI]
        refine hL _ ?_; clear hL L
        simp [C.impl_AddLaurents, fS, tS]
        rw [← hpa]
        refine hK _ ?_; clear hK K
        show AWp _ _ _ _ _
        refine wreg fun K hK => ?_
        simp [C.impl_AddLaurents, fS, wrap_succ (show j < 4611686018427387904 by omega)]
        refine hK _ ?_; clear hK K
        simp [C.impl_AddLaurents, fS]
        refine hR1 (j + 1, _, (f.ts[j].e, f.ts[j].c) :: l) ⟨h1, hM.add hT.1 _, ?_, ?_⟩ (by dsimp only; omega)
        · dsimp only
          rw [List.take_succ_eq_append_getElem h1, List.map_append]
          refine (List.Perm.cons _ hP).trans ?_
          exact (List.perm_append_singleton _ _).symm
        · have := hT.2.2.2
          have h3 : f.ts[j].c.natAbs ≤ 1000000 := by omega
          simp only [absE, List.map_cons, List.sum_cons] at hA ⊢
          omega
      · have h1 : j = f.ts.length := by have := d_f hc2; omega
        rw [h1, List.take_length] at hP
        refine wexit ?_
        show AWp _ _ _ _ _
        refine wseq ?_
        refine wseq ?_
        refine wreg fun K hK => ?_
        simp [C.impl_AddLaurents, fS]
        refine hK _ ?_; clear hK K
        show AWp _ _ _ _ _
        refine wblock ?_
        refine wloop (fun x : Nat × List (List Int × Int) × List (List Int × Int) => ⟨ofL [(1, .int k), (6, .pt (6, 0) [] 0), (8, .pt (8, 0) [] 0), (42, .d (.sh 2 g.ts.length (rows tS g.ts))), (43, .int g.ts.length), (44, .int x.1)], ofRO [((6, 0), some (.bx [D.int 0, .v (.slice none 0 0)])), ((8, 0), some (.bx [D.int n, .mp x.2.1]))]⟩) (fun x => x.1 ≤ g.ts.length ∧ MapR n x.2.1 x.2.2 ∧ x.2.2.Perm (f.ts.map pr ++ (g.ts.take x.1).map (prk k)) ∧ absE x.2.2 ≤ 600000000 + x.1 * 1000000000) (fun x => g.ts.length - x.1) (0, es, l) (by simp [C.impl_AddLaurents, fS]) ⟨by simp, hM, by simpa using hP, by dsimp only; omega⟩ ?_
        intro x2 hx2 R2 hR2
        obtain ⟨i, es2, l2⟩ := x2
        obtain ⟨hi, hM2, hP2, hA2⟩ := hx2
        dsimp only at hi hM2 hP2 hA2 ⊢
        refine wseq ?_
        refine wreg fun K hK => ?_
        simp [C.impl_AddLaurents, fS]
        refine hK _ ?_; clear hK K
        show AWp _ _ _ _ _
        refine wseq ?_
        refine wcond _ rfl (fun hc3 => ?_) (fun hc3 => ?_)
        · have h2 : i < g.ts.length := by have := d_t hc3; omega
          have hU := right_dig hg hn2 _ (List.getElem_mem h2)
          have hkc : (k * g.ts[i].c).natAbs ≤ 1000 * 1000000 := by
            rw [Int.natAbs_mul]
            exact Nat.mul_le_mul (by omega) (by have := hU.2.2.2; omega)
          refine wskip ?_
          show AWp _ _ _ _ _
          refine wseq ?_
          refine wblock ?_
          refine wseq ?_
          refine wreg fun K hK => ?_
          simp [C.impl_AddLaurents, fS, h2, tS_0 h2, tS_1 h2]
          refine hK _ ?_; clear hK K
          show AWp _ _ _ _ _
          obtain ⟨a0, a1, a2, a3, a4, a5, a6, a7, hpa⟩ := eight (pad_length (e := g.ts[i].e) (by omega))
          have hval := hM2.val _ hU.1
          have hco := co_abs g.ts[i].e l2
          refine wdrawI [(true, 0), (true, 1), (true, 2), (true, 4), (true, 5), (true, 6), (true, 7), (false, 3), (false, 8)] ⟨by kernel_rfl, by kernel_rfl⟩ ([0, 1, 2, 4, 5, 6, 7, 3] ++ ([8] ++ ([]))) rfl fun K hK => ?_
          refine opsI_seg fun L hL => ?_
          simp [C.impl_AddLaurents, fS, tS, wrapOk (x := k * g.ts[i].c) (by omega) (by omega)]
          refine wcall1 (impl_keyOf_calls g.ts[i].e (by omega) a0 a1 a2 a3 a4 a5 a6 a7 hpa) (by simp) (by simp) ?_
          simp [C.impl_AddLaurents, fS, tS, wrapOk (x := k * g.ts[i].c) (by omega) (by omega)]
          refine hL _ ?_; clear hL L
          refine opsI_seg fun L hL => ?_
          simp [C.impl_AddLaurents, fS, tS, wrapOk (x := k * g.ts[i].c) (by omega) (by omega)]
          refine wcall1 (impl_building_add_calls n (k * g.ts[i].c) es2 a0 a1 a2 a3 a4 a5 a6 a7 (hM2.len8 hn8) (by rw [← hpa, hval]; omega)) (by simp) (by simp) ?_
          simp [C.impl_AddLaurents, fS, tS, wrapOk (x := k * g.ts[i].c) (by omega) (by omega)]
          refine hL _ ?_; clear hL L
          refine opsI_end fun L hL => ?_
          simp only [AOpsI]
          refine hL _ ?_; clear hL L
          simp [C.impl_AddLaurents, fS, tS, wrapOk (x := k * g.ts[i].c) (by omega) (by omega)]
          rw [← hpa]
          refine hK _ ?_; clear hK K
          show AWp _ _ _ _ _
          refine wreg fun K hK => ?_
          simp [C.impl_AddLaurents, fS, wrap_succ (show i < 4611686018427387904 by omega)]
          refine hK _ ?_; clear hK K
          simp [C.impl_AddLaurents, fS]
          refine hR2 (i + 1, _, (g.ts[i].e, k * g.ts[i].c) :: l2) ⟨h2, hM2.add hU.1 _, ?_, ?_⟩ (by dsimp only; omega)
          · dsimp only
            rw [List.take_succ_eq_append_getElem h2, List.map_append, ← List.append_assoc]
            refine (List.Perm.cons _ hP2).trans ?_
            exact (List.perm_append_singleton _ _).symm
          · simp only [absE, List.map_cons, List.sum_cons] at hA2 ⊢
            omega
        · have h2 : i = g.ts.length := by have := d_f hc3; omega
          have hall : l2.Perm (f.ts.map pr ++ g.ts.map (prk k)) := by
            rw [h2, List.take_length] at hP2
            exact hP2
          have hlen : ∀ x ∈ l2, x.1.length = n := fun x hx => by
            rcases List.mem_append.1 (hall.subset hx) with h | h
            · obtain ⟨t, ht, rfl⟩ := List.mem_map.1 h
              exact (right_dig hf hn t ht).1
            · obtain ⟨t, ht, rfl⟩ := List.mem_map.1 h
              exact (right_dig hg hn2 t ht).1
          have hll : l2.length ≤ 1000000 := by rw [hall.length_eq, List.length_append, List.length_map, List.length_map]; omega
          have hs := shutF_perm hall n
          refine wexit ?_
          show AWp _ _ _ _ _
          refine wseq ?_
          refine wregI ([0, 1] ++ ([2, 3, 4, 5])) rfl fun K hK => ?_
          refine opsI_seg fun L hL => ?_
          simp [C.impl_AddLaurents, fS, fO]
          refine wcall1 (doneOk n es2 l2 hM2 hlen (by omega) hn8 hll) (by simp) (by simp) ?_
          simp [C.impl_AddLaurents, fS, fO]
          refine hL _ ?_; clear hL L
          refine opsI_end fun L hL => ?_
          simp [C.impl_AddLaurents, fS, fO]
          refine hL _ ?_; clear hL L
          simp [C.impl_AddLaurents, fS, fO]
          refine hK _ ?_; clear hK K
          show AWp _ _ _ _ _
          refine wret ?_
          simp [C.impl_AddLaurents, fS, hm, ← hs, fO]
  clear hK
  by_cases ha : Right f ∧ Right g ∧ f.v = g.v
  · have hvv := ha.2.2
    refine opsI_seg fun L hL => ?_
    simp [C.impl_AddLaurents, fS, ha]
    refine wcall1 (impl_bothOk_calls f g hx hxe hy hye) (by simp; omega) (by simp) ?_
    simp [C.impl_AddLaurents, fS, ha]
    refine hL _ ?_; clear hL L
    refine opsI_seg fun L hL => ?_
    simp [C.impl_AddLaurents, fS, ha]
    refine wcall1 (impl_within_calls k (-1000) 1000) (by simp) (by simp) ?_
    simp [C.impl_AddLaurents, fS, ha]
    refine hL _ ?_; clear hL L
    refine opsI_end fun L hL => ?_
    simp [C.impl_AddLaurents, fS, ha]
    refine hL _ ?_; clear hL L
    simp [C.impl_AddLaurents, fS, ha]
    refine cast (congrArg K ?_) hJ
    simp [fS, ha]
  · refine opsI_seg fun L hL => ?_
    simp [C.impl_AddLaurents, fS, ha]
    refine wcall1 (impl_bothOk_calls f g hx hxe hy hye) (by simp) (by simp) ?_
    simp [C.impl_AddLaurents, fS, ha]
    refine hL _ ?_; clear hL L
    refine opsI_seg fun L hL => ?_
    simp [C.impl_AddLaurents, fS, ha]
    refine hL _ ?_; clear hL L
    refine opsI_end fun L hL => ?_
    simp [C.impl_AddLaurents, fS, ha]
    refine hL _ ?_; clear hL L
    simp [C.impl_AddLaurents, fS, ha]
    refine cast (congrArg K ?_) hJ
    simp [fS, ha]
theorem iAdd_calls (f : Lau) (k : Int) (g : Lau) (hx : f.ts.length < 4611686018427387904) (hxe : ∀ t ∈ f.ts, t.e.length < 4611686018427387904) (hy : g.ts.length < 4611686018427387904) (hye : ∀ t ∈ g.ts, t.e.length < 4611686018427387904) : ACalls Try.prog F.impl_AddLaurents [aF f, .int k, aF g] [] true (fun outs res => outs = [] ∧ res = [.ag (fO (addF f k g).1), .one (D.bool (addF f k g).2)]) := (impl_AddLaurents_calls f k g hx hxe hy hye).weak1

end Go.Proofs.Ytocknokodgnlbaa.Ab
namespace Go.Proofs.Ytocknokodgnlbaa.Ab
open Go
set_option linter.unusedSimpArgs false
set_option linter.unusedVariables false
/-! ### Powers of residues -/
def invN : Nat → Nat → Nat → Nat → Nat
  | 0, o, _, _ => o
  | k + 1, o, b, n => bif n % 2 == 1 then invN k (o * b % 32003) (b * b % 32003) (n / 2) else invN k o (b * b % 32003) (n / 2)
def invOne (x : Nat) : Bool := Nat.beq (invN 15 1 x 32001 * x % 32003) 1
def invChk (lo : Nat) : Nat → Bool
  | 0 => true
  | k + 1 => bif invOne (lo + k) then invChk lo k else false
theorem invChk_ok {lo : Nat} : ∀ {n : Nat}, invChk lo n = true → ∀ k, k < n → invOne (lo + k) = true
  | 0, _, k, hk => by omega
  | n + 1, h, k, hk => by
    simp only [invChk] at h
    cases hh : invOne (lo + n) with
    | false => rw [hh] at h; simp at h
    | true =>
      rw [hh] at h
      simp only [cond_true] at h
      rcases Nat.lt_succ_iff_lt_or_eq.1 hk with h1 | rfl
      · exact invChk_ok h k h1
      · exact hh
theorem invC0 : invChk 1 4000 = true := by decide +kernel
theorem invC1 : invChk 4001 4000 = true := by decide +kernel
theorem invC2 : invChk 8001 4000 = true := by decide +kernel
theorem invC3 : invChk 12001 4000 = true := by decide +kernel
theorem invC4 : invChk 16001 4000 = true := by decide +kernel
theorem invC5 : invChk 20001 4000 = true := by decide +kernel
theorem invC6 : invChk 24001 4000 = true := by decide +kernel
theorem invC7 : invChk 28001 4002 = true := by decide +kernel
theorem inv_ok {x : Nat} (h1 : 1 ≤ x) (h2 : x < 32003) : invN 15 1 x 32001 * x % 32003 = 1 := by
  have h : invOne x = true := by
    rcases Nat.lt_or_ge x 4001 with q | q
    · have := invChk_ok invC0 (x - 1) (by omega); rwa [show 1 + (x - 1) = x by omega] at this
    rcases Nat.lt_or_ge x 8001 with q | q
    · have := invChk_ok invC1 (x - 4001) (by omega); rwa [show 4001 + (x - 4001) = x by omega] at this
    rcases Nat.lt_or_ge x 12001 with q | q
    · have := invChk_ok invC2 (x - 8001) (by omega); rwa [show 8001 + (x - 8001) = x by omega] at this
    rcases Nat.lt_or_ge x 16001 with q | q
    · have := invChk_ok invC3 (x - 12001) (by omega); rwa [show 12001 + (x - 12001) = x by omega] at this
    rcases Nat.lt_or_ge x 20001 with q | q
    · have := invChk_ok invC4 (x - 16001) (by omega); rwa [show 16001 + (x - 16001) = x by omega] at this
    rcases Nat.lt_or_ge x 24001 with q | q
    · have := invChk_ok invC5 (x - 20001) (by omega); rwa [show 20001 + (x - 20001) = x by omega] at this
    rcases Nat.lt_or_ge x 28001 with q | q
    · have := invChk_ok invC6 (x - 24001) (by omega); rwa [show 24001 + (x - 24001) = x by omega] at this
    · have := invChk_ok invC7 (x - 28001) (by omega); rwa [show 28001 + (x - 28001) = x by omega] at this
  exact Nat.eq_of_beq_eq_true h
def rsd (x : Int) : Nat := (x % 32003).toNat
theorem rsd_lt (x : Int) : rsd x < 32003 := by unfold rsd; omega
theorem rsd_int (x : Int) : (rsd x : Int) = x % 32003 := by unfold rsd; omega
def pwN (x : Nat) : Nat → Nat
  | 0 => 1
  | n + 1 => pwN x n * x % 32003
theorem pwN_lt (x n : Nat) : pwN x n < 32003 := by
  cases n with
  | zero => simp [pwN]
  | succ n => exact Nat.mod_lt _ (by omega)
def pwZ (x : Nat) (e : Int) : Nat := if e < 0 then pwN (invN 15 1 x 32001) (-e).toNat else pwN x e.toNat
/-! ### Equal modulo the prime -/
def eqm (a b : Int) : Prop := a % 32003 = b % 32003
theorem eqm.rfl' (a : Int) : eqm a a := rfl
theorem eqm.symm {a b : Int} (h : eqm a b) : eqm b a := Eq.symm h
theorem eqm.trans {a b c : Int} (h : eqm a b) (h2 : eqm b c) : eqm a c := Eq.trans h h2
theorem eqm.add {a b c d : Int} (h : eqm a b) (h2 : eqm c d) : eqm (a + c) (b + d) := by unfold eqm at *; omega
theorem eqm.mul {a b c d : Int} (h : eqm a b) (h2 : eqm c d) : eqm (a * c) (b * d) := by
  unfold eqm at *
  rw [Int.mul_emod, h, h2, ← Int.mul_emod]
theorem eqm.mod (a : Int) : eqm (a % 32003) a := by unfold eqm; omega
theorem eqm.nmod (a : Nat) : eqm ((a % 32003 : Nat) : Int) a := by unfold eqm; omega
/-- The powers, not reduced. -/
theorem pwN_eq (x : Nat) : ∀ n : Nat, eqm (pwN x n) ((x : Int) ^ n)
  | 0 => eqm.rfl' _
  | n + 1 => by
    simp only [pwN, Int.pow_succ]
    refine (eqm.nmod _).trans ?_
    rw [Int.natCast_mul]
    exact (pwN_eq x n).mul (eqm.rfl' _)
def zp (x i : Int) (e : Int) : Int := if e < 0 then i ^ (-e).toNat else x ^ e.toNat
theorem pwZ_eq (x : Nat) (e : Int) : eqm (pwZ x e) (zp x (invN 15 1 x 32001) e) := by
  unfold pwZ zp
  split
  · exact pwN_eq _ _
  · exact pwN_eq _ _
theorem zp_up {x i : Int} (h : eqm (i * x) 1) (a : Int) : eqm (zp x i (a + 1)) (zp x i a * x) := by
  unfold zp
  by_cases q : a < 0
  · obtain ⟨m, rfl⟩ : ∃ m : Nat, a = -((m : Int) + 1) := ⟨(-a - 1).toNat, by omega⟩
    have e2 : (if -((m : Int) + 1) < 0 then i ^ (-(-((m : Int) + 1))).toNat else x ^ (-((m : Int) + 1)).toNat) = i ^ m * i := by
      rw [if_pos (by omega), show (-(-((m : Int) + 1))).toNat = m + 1 by omega, Int.pow_succ]
    rw [e2, Int.mul_assoc]
    have e : (if -((m : Int) + 1) + 1 < 0 then i ^ (-(-((m : Int) + 1) + 1)).toNat else x ^ (-((m : Int) + 1) + 1).toNat) = i ^ m := by
      rcases Nat.eq_zero_or_pos m with rfl | hm
      · simp
      · rw [if_pos (by omega), show (-(-((m : Int) + 1) + 1)).toNat = m by omega]
    rw [e]
    have := (eqm.rfl' (i ^ m)).mul h
    rw [Int.mul_one] at this
    exact this.symm
  · obtain ⟨m, rfl⟩ : ∃ m : Nat, a = (m : Int) := ⟨a.toNat, by omega⟩
    rw [if_neg (by omega), if_neg (by omega), show ((m : Int) + 1).toNat = m + 1 by omega, Int.pow_succ]
    exact eqm.rfl' _
theorem zp_down {x i : Int} (h : eqm (i * x) 1) (a : Int) : eqm (zp x i (a - 1)) (zp x i a * i) := by
  have h1 := (zp_up h (a - 1)).mul (eqm.rfl' i)
  rw [show a - 1 + 1 = a by omega, Int.mul_assoc, Int.mul_comm x i] at h1
  have h2 := (eqm.rfl' (zp x i (a - 1))).mul h
  rw [Int.mul_one] at h2
  exact (h1.trans h2).symm
theorem zp_nat {x i : Int} (n : Nat) : zp x i n = x ^ n := by
  unfold zp
  rw [if_neg (by omega)]
  simp
theorem zp_neg {x i : Int} (n : Nat) : zp x i (-(n : Int)) = i ^ n := by
  unfold zp
  rcases Nat.eq_zero_or_pos n with rfl | h
  · simp
  · rw [if_pos (by omega)]
    simp
theorem zp_add {x i : Int} (h : eqm (i * x) 1) (a b : Int) : eqm (zp x i (a + b)) (zp x i a * zp x i b) := by
  have up : ∀ n : Nat, eqm (zp x i (a + n)) (zp x i a * x ^ n) := fun n => by
    induction n with
    | zero => simp; exact eqm.rfl' _
    | succ n ih =>
      have h1 := zp_up h (a + n)
      rw [show a + ((n + 1 : Nat) : Int) = a + n + 1 by omega, Int.pow_succ, ← Int.mul_assoc]
      exact h1.trans (ih.mul (eqm.rfl' _))
  have dn : ∀ n : Nat, eqm (zp x i (a - n)) (zp x i a * i ^ n) := fun n => by
    induction n with
    | zero => simp; exact eqm.rfl' _
    | succ n ih =>
      have h1 := zp_down h (a - n)
      rw [show a - ((n + 1 : Nat) : Int) = a - n - 1 by omega, Int.pow_succ, ← Int.mul_assoc]
      exact h1.trans (ih.mul (eqm.rfl' _))
  by_cases q : b < 0
  · obtain ⟨m, rfl⟩ : ∃ m : Nat, b = -(m : Int) := ⟨(-b).toNat, by omega⟩
    rw [zp_neg, ← Int.sub_eq_add_neg]
    exact dn m
  · obtain ⟨m, rfl⟩ : ∃ m : Nat, b = (m : Int) := ⟨b.toNat, by omega⟩
    rw [zp_nat]
    exact up m
theorem pwZ_add {x : Nat} (h1 : 1 ≤ x) (h2 : x < 32003) (a b : Int) : eqm (pwZ x (a + b)) (pwZ x a * pwZ x b) := by
  have h : eqm ((invN 15 1 x 32001 : Nat) * (x : Int)) 1 := by
    have := inv_ok h1 h2
    unfold eqm
    rw [← Int.natCast_mul]
    omega
  exact (pwZ_eq x _).trans ((zp_add h a b).trans ((pwZ_eq x a).mul (pwZ_eq x b)).symm)
/-! ### Values -/
def evK (c : Int) (ys es : List Int) : Nat → Nat
  | 0 => rsd c
  | k + 1 => evK c ys es k * pwZ (rsd (ys.getD k 0)) (es.getD k 0) % 32003
def evS (ys : List Int) (n : Nat) (ts : List Trm) : Nat → Nat
  | 0 => 0
  | k + 1 => (evS ys n ts k + evK (ts.getD k ⟨[], 0⟩).c ys (ts.getD k ⟨[], 0⟩).e n) % 32003
theorem evK_lt (c : Int) (ys es : List Int) (k : Nat) : evK c ys es k < 32003 := by
  cases k with
  | zero => exact rsd_lt c
  | succ k => exact Nat.mod_lt _ (by omega)
theorem evS_lt (ys : List Int) (n : Nat) (ts : List Trm) (k : Nat) : evS ys n ts k < 32003 := by
  cases k with
  | zero => simp [evS]
  | succ k => exact Nat.mod_lt _ (by omega)
def ValOk (f : Lau) (ys : List Int) : Prop := Right f ∧ (ys.length : Int) = f.v ∧ ∀ y ∈ ys, y % 32003 ≠ 0
noncomputable instance (f : Lau) (ys : List Int) : Decidable (ValOk f ys) := Classical.propDecidable _
noncomputable def evF (f : Lau) (ys : List Int) : Int := if ValOk f ys then evS ys ys.length f.ts f.ts.length else -1
def mnV (ys es : List Int) : Nat → Int
  | 0 => 1
  | k + 1 => mnV ys es k * pwZ (rsd (ys.getD k 0)) (es.getD k 0)
theorem evK_eq (c : Int) (ys es : List Int) : ∀ k, eqm (evK c ys es k) (c * mnV ys es k)
  | 0 => by
    simp only [evK, mnV, Int.mul_one, rsd_int]
    exact eqm.mod c
  | k + 1 => by
    simp only [evK, mnV]
    refine (eqm.nmod _).trans ?_
    rw [Int.natCast_mul, ← Int.mul_assoc]
    exact (evK_eq c ys es k).mul (eqm.rfl' _)
theorem evS_eq (ys : List Int) (n : Nat) (ts : List Trm) : ∀ k, k ≤ ts.length → eqm (evS ys n ts k) (vl (fun e => mnV ys e n) ((ts.take k).map pr))
  | 0, _ => by simp [evS, vl, eqm]
  | k + 1, h => by
    have hk : k < ts.length := by omega
    simp only [evS]
    refine (eqm.nmod _).trans ?_
    rw [Int.natCast_add, List.take_succ_eq_append_getElem hk, List.map_append, vl_app]
    refine (evS_eq ys n ts k (by omega)).add ?_
    have : ts.getD k ⟨[], 0⟩ = ts[k] := by simp [List.getD_eq_getElem?_getD, hk]
    rw [this]
    simp only [List.map_cons, List.map_nil, vl, pr, Int.add_zero]
    exact evK_eq _ _ _ _
theorem evS_val (ys : List Int) (n : Nat) (ts : List Trm) : eqm (evS ys n ts ts.length) (vl (fun e => mnV ys e n) (ts.map pr)) := by
  have := evS_eq ys n ts ts.length (Nat.le_refl _)
  rwa [List.take_length] at this
theorem getD_add1 (i : Nat) : ∀ (a b : List Int), a.length = b.length → (addE 1 a b).getD i 0 = a.getD i 0 + b.getD i 0 := by
  induction i with
  | zero =>
    intro a b h
    match a, b, h with
    | [], [], _ => rfl
    | x :: a, y :: b, _ => simp [addE]
  | succ i ih =>
    intro a b h
    match a, b, h with
    | [], [], _ => rfl
    | x :: a, y :: b, h =>
      have := ih a b (by simpa using h)
      simpa [addE] using this
theorem mnV_add {ys : List Int} (hy : ∀ y ∈ ys, y % 32003 ≠ 0) {a b : List Int} (h : a.length = b.length) : ∀ k, k ≤ ys.length → eqm (mnV ys (addE 1 a b) k) (mnV ys a k * mnV ys b k)
  | 0, _ => eqm.rfl' _
  | k + 1, hk => by
    have hk' : k < ys.length := by omega
    have h1 := mnV_add hy h k (by omega)
    simp only [mnV]
    rw [getD_add1 k a b h]
    have hr : 1 ≤ rsd (ys.getD k 0) := by
      have h2 : ys.getD k 0 = ys[k] := by simp [List.getD_eq_getElem?_getD, hk']
      have h3 := hy _ (List.getElem_mem hk')
      rw [h2]
      unfold rsd
      omega
    have h2 := h1.mul (pwZ_add hr (rsd_lt _) (a.getD k 0) (b.getD k 0))
    refine h2.trans ?_
    have : mnV ys a k * mnV ys b k * ((pwZ (rsd (ys.getD k 0)) (a.getD k 0) : Int) * (pwZ (rsd (ys.getD k 0)) (b.getD k 0) : Int)) = mnV ys a k * (pwZ (rsd (ys.getD k 0)) (a.getD k 0) : Int) * (mnV ys b k * (pwZ (rsd (ys.getD k 0)) (b.getD k 0) : Int)) := by
      rw [Int.mul_assoc, Int.mul_assoc, Int.mul_left_comm (mnV ys b k)]
    rw [this]
    exact eqm.rfl' _
theorem vl_eqm {K : Type} {φ ψ : K → Int} : ∀ {l : List (K × Int)}, (∀ x ∈ l, eqm (φ x.1) (ψ x.1)) → eqm (vl φ l) (vl ψ l)
  | [], _ => eqm.rfl' _
  | x :: l, h => by
    simp only [vl]
    exact ((eqm.rfl' _).mul (h x (by simp))).add (vl_eqm fun y hy => h y (by simp [hy]))
theorem val_prod {ys : List Int} (hy : ∀ y ∈ ys, y % 32003 ≠ 0) {n : Nat} (hn : n = ys.length) {a b : List (List Int × Int)} (ha : ∀ x ∈ a, x.1.length = n) (hb : ∀ x ∈ b, x.1.length = n) :
    eqm (vl (fun e => mnV ys e n) (prodL a b)) (vl (fun e => mnV ys e n) a * vl (fun e => mnV ys e n) b) := by
  have e1 : prodL a b = prodK (addE 1) a b := rfl
  rw [e1, vl_prodK]
  have h1 : eqm (vl (fun e => vl (fun e' => mnV ys (addE 1 e e') n) b) a) (vl (fun e => vl (fun e' => mnV ys e' n) b * mnV ys e n) a) := vl_eqm fun x hx => by
    have h2 : eqm (vl (fun e' => mnV ys (addE 1 x.1 e') n) b) (vl (fun e' => mnV ys x.1 n * mnV ys e' n) b) := vl_eqm fun y hy2 => mnV_add hy ((ha x hx).trans (hb y hy2).symm) n (by omega)
    refine h2.trans ?_
    rw [vl_mul, Int.mul_comm]
    exact eqm.rfl' _
  refine h1.trans ?_
  rw [vl_mul, Int.mul_comm]
  exact eqm.rfl' _
end Go.Proofs.Ytocknokodgnlbaa.Ab
namespace Go.Proofs.Ytocknokodgnlbaa.Ab
open Go
set_option linter.unusedSimpArgs false
set_option linter.unusedVariables false
set_option maxRecDepth 10000
set_option maxHeartbeats 2000000
theorem resid (x : Int) : (IntKind.i64.wrap (x.tmod 32003 + 32003)).tmod 32003 = (rsd x : Int) := by
  have h1 := Int.mul_tdiv_add_tmod x 32003
  have h2 := Int.tmod_lt_of_pos x (show (0 : Int) < 32003 by omega)
  have h3 := Int.lt_tmod_of_pos x (show (0 : Int) < 32003 by omega)
  rw [wrapOk (by omega) (by omega), Int.tmod_eq_emod_of_nonneg (by omega), rsd_int]
  omega
theorem ntmod (a b : Nat) : (a : Int).tmod b = ((a % b : Nat) : Int) := rfl
theorem ntdiv (a b : Nat) : (a : Int).tdiv b = ((a / b : Nat) : Int) := rfl
theorem pwmul {a b : Nat} (ha : a < 32003) (hb : b < 32003) : (IntKind.i64.wrap ((a : Int) * b)).tmod 32003 = ((a * b % 32003 : Nat) : Int) := by
  have h1 : a * b ≤ 32003 * 32003 := Nat.mul_le_mul (by omega) (by omega)
  rw [← Int.natCast_mul, wrapOk (by omega) (by omega)]
  exact ntmod _ 32003
theorem pwadd {a b : Nat} (ha : a < 32003) (hb : b < 32003) : (IntKind.i64.wrap ((a : Int) + b)).tmod 32003 = (((a + b) % 32003 : Nat) : Int) := by
  rw [← Int.natCast_add, wrapOk (by omega) (by omega)]
  exact ntmod _ 32003
theorem invN_zero : ∀ (k o b : Nat), invN k o b 0 = o
  | 0, _, _ => rfl
  | k + 1, o, b => by
    simp only [invN]
    exact invN_zero k o _
theorem invN_lt : ∀ (k o b n : Nat), o < 32003 → invN k o b n < 32003
  | 0, _, _, _, h => h
  | k + 1, o, b, n, h => by
    simp only [invN]
    cases n % 2 == 1 with
    | true => exact invN_lt k _ _ _ (Nat.mod_lt _ (by omega))
    | false => exact invN_lt k _ _ _ h
theorem impl_residue_calls (x : Int) : ACalls Try.prog F.impl_residue [.int x] [] true (fun outs res => outs = [] ∧ res = [.one (D.int (rsd x))]) := by
  refine ACalls.of_body (C := C.impl_residue) (n := Try.f69.ntmps) tabT folT Try.func69 rfl (by kernel_rfl) rfl (Nat.le_of_ble_eq_true rfl) (by decide) (by kernel_rfl) (by kernel_rfl) rfl (by simp) (by simp) ?_
  simp only [Try.f69]
  refine wseq ?_
  refine wreg fun K hK => ?_
  simp [C.impl_residue]
  refine hK _ ?_; clear hK K
  show AWp _ _ _ _ _
  refine wseq ?_
  refine wreg fun K hK => ?_
  simp [C.impl_residue, resid x]
  refine hK _ ?_; clear hK K
  show AWp _ _ _ _ _
  refine wret ?_
  simp [C.impl_residue]

theorem spec_l2Residue_calls (x : Int) : ACalls Try.prog F.spec_l2Residue [.int x] [] true (fun outs res => outs = [] ∧ res = [.one (D.int (rsd x))]) := by
  refine ACalls.of_body (C := C.spec_l2Residue) (n := Try.f73.ntmps) tabT folT Try.func73 rfl (by kernel_rfl) rfl (Nat.le_of_ble_eq_true rfl) (by decide) (by kernel_rfl) (by kernel_rfl) rfl (by simp) (by simp) ?_
  simp only [Try.f73]
  refine wseq ?_
  refine wreg fun K hK => ?_
  simp [C.spec_l2Residue]
  refine hK _ ?_; clear hK K
  show AWp _ _ _ _ _
  refine wseq ?_
  refine wreg fun K hK => ?_
  simp [C.spec_l2Residue, resid x]
  refine hK _ ?_; clear hK K
  show AWp _ _ _ _ _
  refine wret ?_
  simp [C.spec_l2Residue]

theorem impl_powerOf_calls (x : Nat) (n : Nat) (hx : x < 32003) (hn : n < 4611686018427387904) : ACalls Try.prog F.impl_powerOf [.int x, .int n] [] true (fun outs res => outs = [] ∧ res = [.one (D.int (pwN x n))]) := by
  refine ACalls.of_body (C := C.impl_powerOf) (n := Try.f71.ntmps) tabT folT Try.func71 rfl (by kernel_rfl) rfl (Nat.le_of_ble_eq_true rfl) (by decide) (by kernel_rfl) (by kernel_rfl) rfl (by simp) (by simp) ?_
  simp only [Try.f71]
  refine wseq ?_
  refine wreg fun K hK => ?_
  simp [C.impl_powerOf]
  refine hK _ ?_; clear hK K
  show AWp _ _ _ _ _
  refine wseq ?_
  refine wreg fun K hK => ?_
  simp [C.impl_powerOf]
  refine hK _ ?_; clear hK K
  show AWp _ _ _ _ _
  refine wseq ?_
  refine wblock ?_
  refine wloop (fun k : Nat => ⟨ofL [(0, .int x), (1, .int ((n : Int) - k)), (5, .int (pwN x k))], ofRO []⟩) (fun k => k ≤ n) (fun k => n - k) 0 (by simp [C.impl_powerOf, pwN]) (by simp) ?_
  intro x1 hx1 R1 hR1
  refine wseq ?_
  refine wseq ?_
  refine wreg fun K hK => ?_
  simp [C.impl_powerOf]
  refine hK _ ?_; clear hK K
  show AWp _ _ _ _ _
  refine wcond _ rfl (fun hc1 => ?_) (fun hc1 => ?_)
  · have h1 : x1 < n := by have := d_t hc1; omega
    refine wskip ?_
    show AWp _ _ _ _ _
    refine wseq ?_
    refine wblock ?_
    refine wreg fun K hK => ?_
    simp [C.impl_powerOf, pwmul (pwN_lt x x1) hx]
    refine hK _ ?_; clear hK K
    show AWp _ _ _ _ _
    refine wreg fun K hK => ?_
    simp [C.impl_powerOf, wrapOk (x := (n : Int) - x1 - 1) (by omega) (by omega)]
    refine hK _ ?_; clear hK K
    simp [C.impl_powerOf]
    refine cast (congrArg R1 ?_) (hR1 (x1 + 1) h1 (by omega))
    simp [pwN, show (n : Int) - (x1 + 1) = n - x1 - 1 by omega]
  · have h1 : x1 = n := by have := d_f hc1; omega
    refine wexit ?_
    show AWp _ _ _ _ _
    refine wseq ?_
    refine wreg fun K hK => ?_
    simp [C.impl_powerOf]
    refine hK _ ?_; clear hK K
    show AWp _ _ _ _ _
    refine wret ?_
    simp [C.impl_powerOf, h1]

theorem impl_inverse_calls (x : Nat) (hx : x < 32003) : ACalls Try.prog F.impl_inverse [.int x] [] true (fun outs res => outs = [] ∧ res = [.one (D.int (invN 15 1 x 32001))]) := by
  obtain ⟨I, hI⟩ : ∃ I, I = invN 15 1 x 32001 := ⟨_, rfl⟩
  rw [← hI]
  refine ACalls.of_body (C := C.impl_inverse) (n := Try.f70.ntmps) tabT folT Try.func70 rfl (by kernel_rfl) rfl (Nat.le_of_ble_eq_true rfl) (by decide) (by kernel_rfl) (by kernel_rfl) rfl (by simp) (by simp) ?_
  simp only [Try.f70]
  refine wseq ?_
  refine wreg fun K hK => ?_
  simp [C.impl_inverse]
  refine hK _ ?_; clear hK K
  show AWp _ _ _ _ _
  refine wseq ?_
  refine wreg fun K hK => ?_
  simp [C.impl_inverse]
  refine hK _ ?_; clear hK K
  show AWp _ _ _ _ _
  refine wseq ?_
  refine wseq ?_
  refine wreg fun K hK => ?_
  simp [C.impl_inverse]
  refine hK _ ?_; clear hK K
  show AWp _ _ _ _ _
  refine wblock ?_
  refine wloop (fun y : Nat × Nat × Nat × Nat => ⟨ofL [(3, .int y.2.1), (4, .int y.2.2.1), (5, .int y.2.2.2)], ofRO []⟩) (fun y => y.2.1 < 32003 ∧ y.2.2.1 < 32003 ∧ y.2.2.2 < 2 ^ y.1 ∧ y.2.2.2 ≤ 32001 ∧ invN y.1 y.2.1 y.2.2.1 y.2.2.2 = I) (fun y => y.1) (15, 1, x, 32001) (by simp [C.impl_inverse]) ⟨by simp, hx, by simp, by simp, hI.symm⟩ ?_
  intro x1 hx1 R1 hR1
  obtain ⟨k, o, b, m⟩ := x1
  obtain ⟨ho, hb, hm, hm2, hi⟩ := hx1
  dsimp only at ho hb hm hm2 hi ⊢
  refine wseq ?_
  refine wseq ?_
  refine wreg fun K hK => ?_
  simp [C.impl_inverse]
  refine hK _ ?_; clear hK K
  show AWp _ _ _ _ _
  refine wcond _ rfl (fun hc1 => ?_) (fun hc1 => ?_)
  · have h1 : 0 < m := by have := d_t hc1; omega
    obtain ⟨k, rfl⟩ : ∃ k', k = k' + 1 := by
      cases k with
      | zero => simp at hm; omega
      | succ k => exact ⟨k, rfl⟩
    have hm3 : m / 2 < 2 ^ k := by rw [Nat.pow_succ] at hm; omega
    have hq := ntmod m 2
    have hd := ntdiv m 2
    simp only [Int.cast_ofNat_Int] at hq hd
    have hwd : IntKind.i64.wrap ((m : Int) / 2) = (m : Int) / 2 := wrapOk (by omega) (by omega)
    refine wskip ?_
    show AWp _ _ _ _ _
    refine wseq ?_
    refine wblock ?_
    refine wseq ?_
    refine wseq ?_
    refine wreg fun K hK => ?_
    simp [C.impl_inverse, hq]
    refine hK _ ?_; clear hK K
    show AWp _ _ _ _ _
    refine wcond _ rfl (fun hc2 => ?_) (fun hc2 => ?_)
    · have hodd : m % 2 = 1 := by have := d_t hc2; omega
      refine wreg fun K hK => ?_
      simp [C.impl_inverse, pwmul ho hb]
      refine hK _ ?_; clear hK K
      show AWp _ _ _ _ _
      refine wreg fun K hK => ?_
      simp [C.impl_inverse, pwmul hb hb]
      refine hK _ ?_; clear hK K
      show AWp _ _ _ _ _
      refine wreg fun K hK => ?_
      simp [C.impl_inverse, hd, hwd]
      refine hK _ ?_; clear hK K
      simp [C.impl_inverse]
      refine cast (congrArg R1 ?_) (hR1 (k, o * b % 32003, b * b % 32003, m / 2) ⟨Nat.mod_lt _ (by omega), Nat.mod_lt _ (by omega), hm3, by dsimp only; omega, ?_⟩ (by dsimp only; omega))
      · simp
      · dsimp only
        simp only [invN, hodd] at hi
        exact hi
    · have hodd : m % 2 ≠ 1 := by have := d_f hc2; omega
      refine wskip ?_
      show AWp _ _ _ _ _
      refine wreg fun K hK => ?_
      simp [C.impl_inverse, pwmul hb hb]
      refine hK _ ?_; clear hK K
      show AWp _ _ _ _ _
      refine wreg fun K hK => ?_
      simp [C.impl_inverse, hd, hwd]
      refine hK _ ?_; clear hK K
      simp [C.impl_inverse]
      refine cast (congrArg R1 ?_) (hR1 (k, o, b * b % 32003, m / 2) ⟨ho, Nat.mod_lt _ (by omega), hm3, by dsimp only; omega, ?_⟩ (by dsimp only; omega))
      · simp
      · dsimp only
        simp only [invN, show (m % 2 == 1) = false by simpa using hodd] at hi
        exact hi
  · have h1 : m = 0 := by have := d_f hc1; omega
    refine wexit ?_
    show AWp _ _ _ _ _
    refine wseq ?_
    refine wreg fun K hK => ?_
    simp [C.impl_inverse]
    refine hK _ ?_; clear hK K
    show AWp _ _ _ _ _
    refine wret ?_
    simp [C.impl_inverse]
    rw [h1, invN_zero] at hi
    rw [hi]

theorem impl_EvaluateLaurent_1_calls (x : Int) : ACalls Try.prog F.impl_EvaluateLaurent_1 [.int x] [] true (fun outs res => outs = [] ∧ res = [.one (D.bool (decide (rsd x = 0)))]) := by
  refine ACalls.of_body (C := C.impl_EvaluateLaurent_1) (n := Try.f68.ntmps) tabT folT Try.func68 rfl (by kernel_rfl) rfl (Nat.le_of_ble_eq_true rfl) (by decide) (by kernel_rfl) (by kernel_rfl) rfl (by simp) (by simp) ?_
  simp only [Try.f68]
  refine wseq ?_
  refine wreg fun K hK => ?_
  simp [C.impl_EvaluateLaurent_1]
  refine hK _ ?_; clear hK K
  show AWp _ _ _ _ _
  refine wseq ?_
  refine wregI ([0, 1] ++ ([2, 3])) rfl fun K hK => ?_
  refine opsI_seg fun L hL => ?_
  simp [C.impl_EvaluateLaurent_1]
  refine wcall1 (impl_residue_calls x) (by simp) (by simp) ?_
  simp [C.impl_EvaluateLaurent_1]
  refine hL _ ?_; clear hL L
  refine opsI_end fun L hL => ?_
  simp [C.impl_EvaluateLaurent_1]
  refine hL _ ?_; clear hL L
  simp [C.impl_EvaluateLaurent_1]
  refine hK _ ?_; clear hK K
  show AWp _ _ _ _ _
  refine wret ?_
  simp [C.impl_EvaluateLaurent_1]
  rw [Bool.eq_iff_iff]
  simp

theorem laws_plus_calls (f : Lau) (k : Int) (g : Lau) (hx : f.ts.length < 4611686018427387904) (hxe : ∀ t ∈ f.ts, t.e.length < 4611686018427387904) (hy : g.ts.length < 4611686018427387904) (hye : ∀ t ∈ g.ts, t.e.length < 4611686018427387904) : ACalls Try.prog F.laws_plus [aF f, .int k, aF g] [] true (fun outs res => outs = [] ∧ res = [.ag (fO (addF f k g).1)]) := by
  refine ACalls.of_body (C := C.laws_plus) (n := Try.f19.ntmps) tabT folT Try.func19 rfl (by kernel_rfl) rfl (Nat.le_of_ble_eq_true rfl) (by decide) (by kernel_rfl) (by kernel_rfl) rfl (by simp) (by simp) ?_
  simp only [Try.f19]
  refine wseq ?_
  refine wreg fun K hK => ?_
  simp [C.laws_plus, fS, fO]
  refine hK _ ?_; clear hK K
  show AWp _ _ _ _ _
  refine wseq ?_
  refine wregI ([0, 1, 2, 3] ++ ([4, 5, 6, 7, 8, 9])) rfl fun K hK => ?_
  refine opsI_seg fun L hL => ?_
  simp [C.laws_plus, fS, fO]
  refine wcall1 (iAdd_calls f k g hx hxe hy hye) (by simp) (by simp) ?_
  simp [C.laws_plus, fS, fO]
  refine hL _ ?_; clear hL L
  refine opsI_end fun L hL => ?_
  simp [C.laws_plus, fS, fO]
  refine hL _ ?_; clear hL L
  simp [C.laws_plus, fS, fO]
  refine hK _ ?_; clear hK K
  show AWp _ _ _ _ _
  refine wseq ?_
  refine wreg fun K hK => ?_
  simp [C.laws_plus, fS, fO]
  refine hK _ ?_; clear hK K
  show AWp _ _ _ _ _
  refine wret ?_
  simp [C.laws_plus, fS, fO]

end Go.Proofs.Ytocknokodgnlbaa.Ab

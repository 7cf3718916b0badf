/- A part of the proof: contracts of functions of this seat, and lemmas. No condition beyond those stated. -/
import Derived.Test.YtfmbadfdbjhekaaDoorWdnl
set_option linter.unusedVariables false
set_option linter.unusedSimpArgs false
set_option linter.unusedSectionVars false
set_option linter.unnecessarySimpa false
set_option maxRecDepth 100000
namespace Go.Proofs
open Go.AM
namespace YtfmbadfdbjhekaaDoor
variable {Gl : Globs}
def chk2 (a b : List NodeT) : Int := if checkF a = 0 then checkF b else checkF a
theorem k_chk2 (a b : List NodeT) (ha : a.length < 1000000) (hb : b.length < 1000000) : Pure Tryd.prog Gl 25 [.d (.sl (a.map NodeT.toD)), .d (.sl (b.map NodeT.toD))] (.d (.int .i64 (chk2 a b))) := by
 refine Pure.of2 ?_
 refine acalls_of Tryd.func25 rfl rfl (by simp [Tryd.ntmps25]) (evC_sound rfl _ _ _ _ ?_)
 simp only [Tryd.ntmps25, Tryd.results25, argEnv, List.length_nil]
 simp only [zN, seval, implies_true, Nat.reduceLeDiff, Nat.reduceEqDiff, reduceCtorEq, reduceIte, intD]
 refine callF_pure (k_flameCheck a ha) ?_
 simp only [zN, seval, implies_true, Nat.reduceLeDiff, Nat.reduceEqDiff, reduceCtorEq, reduceIte, intD]
 refine ifC.mk (fun h1 => ?_) (fun h1 => ?_)
 ·have h1 : ¬ checkF a = 0 := by simpa using h1
  refine ⟨_, _, ret_d, ?_, rfl⟩
  rw [chk2, if_neg h1]
 ·have h1 : checkF a = 0 := by simpa using h1
  refine callF_pure (k_flameCheck b hb) ?_
  simp only [zN, seval, implies_true, Nat.reduceLeDiff, Nat.reduceEqDiff, reduceCtorEq, reduceIte, intD]
  refine ⟨_, _, ret_d, ?_, rfl⟩
  rw [chk2, if_pos h1]
theorem chk2_ok {a b : List NodeT} (h : chk2 a b = 0) : checkF a = 0 ∧ checkF b = 0 := by
 unfold chk2 at h
 split at h
 ·exact ⟨by assumption, h⟩
 ·contradiction
theorem k_partner (l : List PairT) (p : Int) (h0 : -1 ≤ p) (h1 : p < l.length) (hl : l.length < 1000000) : Pure Tryd.prog Gl 32 [.d (.sl (l.map PairT.toD)), .d (.int .i64 p)] (.d (.int .i64 (if p = -1 then -1 else pb l p.toNat))) := by
 refine Pure.of2 ?_
 refine acalls_of Tryd.func32 rfl rfl (by simp [Tryd.ntmps32]) (evC_sound rfl _ _ _ _ ?_)
 simp only [Tryd.ntmps32, Tryd.results32, argEnv, List.length_nil]
 simp only [zN, seval, implies_true, Nat.reduceLeDiff, Nat.reduceEqDiff, reduceCtorEq, reduceIte, intD]
 refine ifC.mk (fun h2 => ?_) (fun h2 => ?_)
 ·have h2 : p = -1 := by simpa using h2
  refine ⟨_, _, ret_d, ?_, rfl⟩
  rw [if_pos h2]
 ·have h2 : ¬ p = -1 := by simpa using h2
  obtain ⟨q, rfl⟩ : ∃ q : Nat, p = q := ⟨p.toNat, by omega⟩
  have hq : q < l.length := by omega
  have eg : (l.map PairT.toD).getD q default = (l.getD q default).toD := a_getD _ _ _ hq
  simp only [zN, seval, implies_true, Nat.reduceLeDiff, Nat.reduceEqDiff, reduceCtorEq, reduceIte, intD, eg, hq]
  repeat ((with_reducible refine And.intro ?_ ?_); (focus (first | omega | (simp only [lenR]; omega) | (refine qq ?_; rfl) | (refine dq ?_; kernel_rfl) | (intros; simp_all; done))))
  refine ⟨_, _, ret_d, ?_, rfl⟩
  rfl
def tkL (l : List PairT) (i m : Nat) : List D := (List.range m).map fun k : Nat => .bool (tkn l i (k : Int))
theorem tkL_len (l : List PairT) (i m : Nat) : (tkL l i m).length = m := by simp [tkL]
theorem tkL_get (l : List PairT) (i : Nat) {m k : Nat} (h : k < m) : (tkL l i m).getD k default = .bool (tkn l i (k : Int)) := rg_get _ h
theorem tkL_zero (l : List PairT) (m : Nat) : List.replicate m (D.bool false) = tkL l 0 m := by rw [rg_rep]; rfl
theorem tkL_set (l : List PairT) (i m : Nat) {q : Nat} (hq : pb l i = q) : (tkL l i m).set q (.bool true) = tkL l (i + 1) m := by
 rw [tkL, rg_set, tkL]
 refine rg_congr fun k hk => ?_
 rw [tkn_step, hq]
 by_cases e : k = q
 ·subst e; simp
 ·rw [if_neg e]
  have : ¬ (q : Int) = k := by omega
  simp [this]
theorem tkL_neg (l : List PairT) (i m : Nat) (hq : pb l i < 0) : tkL l (i + 1) m = tkL l i m := by
 refine rg_congr fun k hk => ?_
 rw [tkn_step]
 have : ¬ pb l i = (k : Int) := by omega
 simp [this]
theorem k_Chk (a b : List NodeT) (l : List PairT) (ha : a.length ≤ 100) (hb : b.length ≤ 100) (hl : l.length < 1000000) : Pure Tryd.prog Gl 16 [.d (.sl (a.map NodeT.toD)), .d (.sl (b.map NodeT.toD)), .d (.sl (l.map PairT.toD))] (.d (.bool (checkAl a b l))) := by
 refine Pure.of3 ?_
 refine acalls_of Tryd.func16 rfl rfl (by simp [Tryd.ntmps16]) (evC_sound rfl _ _ _ _ ?_)
 simp only [Tryd.ntmps16, Tryd.results16, argEnv, List.length_nil]
 simp only [zN, seval, implies_true, Nat.reduceLeDiff, Nat.reduceEqDiff, reduceCtorEq, reduceIte, intD]
 refine callF_pure (k_chk2 a b (by omega) (by omega)) ?_
 simp only [zN, seval, implies_true, Nat.reduceLeDiff, Nat.reduceEqDiff, reduceCtorEq, reduceIte, intD]
 repeat ((with_reducible refine And.intro ?_ ?_); (focus (first | omega | (simp only [lenR]; omega) | (refine qq ?_; rfl) | (refine dq ?_; kernel_rfl) | (intros; simp_all; done))))
 refine ifC.mk (fun h1 => ?_) (fun h1 => ?_)
 ·refine ⟨_, _, ret_d, ?_, rfl⟩
  rw [chk_err (fun g => by
   simp only [Bool.or_eq_true, bne_iff_ne, decide_eq_true_eq] at h1
   have : chk2 a b = 0 := by rw [chk2, if_pos g.1]; exact g.2.1
   omega)]
 have h1' : chk2 a b = 0 ∧ a.length ≤ l.length := by
  simp only [Bool.or_eq_false_iff, bne_eq_false_iff_eq, decide_eq_false_iff_not] at h1
  omega
 clear h1
 obtain ⟨h1, h3⟩ := h1'
 obtain ⟨h1, h2⟩ := chk2_ok h1
 have htA := (checkF_ok h1).2.2.2.1
 have htB := (checkF_ok h2).2.2.2.1
 (try simp only [zN, seval, implies_true, Nat.reduceLeDiff, Nat.reduceEqDiff, reduceCtorEq, reduceIte, intD, mkS_bools])
 repeat ((with_reducible refine And.intro ?_ ?_); (focus (first | omega | (simp only [lenR]; omega) | (refine qq ?_; rfl) | (refine dq ?_; kernel_rfl) | (intros; simp_all; done))))
 refine ⟨mk_bools _ (by omega), ?_⟩
 repeat ((with_reducible refine And.intro ?_ ?_); (focus (first | omega | (simp only [lenR]; omega) | (refine qq ?_; rfl) | (refine dq ?_; kernel_rfl) | (intros; simp_all; done))))
 rw [tkL_zero l]
 refine for_of a.length (fun i => [(0, .d (.sl (a.map NodeT.toD))), (1, .d (.sl (b.map NodeT.toD))), (2, .d (.sl (l.map PairT.toD))), (7, .osl 0 0 b.length), (31, .d (.sl ((l.map PairT.toD).take a.length))), (32, .d (.int .i64 a.length)), (33, .d (.int .i64 i))]) (fun i => [.arr 1 (tkL l i b.length)]) (fun i => (List.range i).all (preI b.length l) = true ∧ (List.range i).all (parI a b l) = true) ⟨rfl, rfl⟩ ?_ ?_
 ·refine weak_to [] [0] rfl (by simp) ?_ rfl
  simp only [zN, seval, implies_true, Nat.reduceLeDiff, Nat.reduceEqDiff, reduceCtorEq, reduceIte, intD, Int.cast_ofNat_Int, List.length_take, List.length_map, Nat.min_eq_left h3]
  done
 ·intro i ⟨hi, hi2⟩ hil
  by_cases h : i < a.length
  ·obtain ⟨x, hx⟩ : ∃ x, x = l.getD i default := ⟨_, rfl⟩
   have ea : pa l i = x.a := by rw [hx]; rfl
   have eb : pb l i = x.b := by rw [hx]; rfl
   have hil2 : i < l.length := by omega
   have eg : ((l.map PairT.toD).take a.length).getD i default = x.toD := by
    rw [hx]; simp [List.getD_eq_getElem?_getD, List.getElem?_take_of_lt h, hil2]
   have htk : ((l.map PairT.toD).take a.length).length = a.length := by simp; omega
   simp only [zN, seval, implies_true, Nat.reduceLeDiff, Nat.reduceEqDiff, reduceCtorEq, reduceIte, intD, (show (i:Int) < a.length by omega), h, htk, eg]
   repeat ((with_reducible refine And.intro ?_ ?_); (focus (first | omega | (simp only [lenR]; omega) | (refine qq ?_; rfl) | (refine dq ?_; kernel_rfl) | (intros; simp_all; done))))
   have hpre : preI b.length l i = (!(x.a != (i : Int) || decide (x.b < -1) || decide ((b.length : Int) ≤ x.b)) && (decide (x.b < 0) || !tkn l i x.b)) := by
    rw [preI, ea, eb]
    congr 1
    rw [Bool.eq_iff_iff]
    simp only [Bool.and_eq_true, beq_iff_eq, decide_eq_true_eq, Bool.not_eq_true', Bool.or_eq_false_iff, bne_eq_false_iff_eq, decide_eq_false_iff_not]
    omega
   refine ifC.mk (fun hc => ?_) (fun hc => ?_)
   ·rw [hc] at hpre
    refine ⟨_, _, ret_d, ?_, rfl⟩
    rw [chk_pre h hpre]
   have hc' : -1 ≤ x.b ∧ x.b < b.length := by
    simp only [Bool.or_eq_false_iff, bne_eq_false_iff_eq, decide_eq_false_iff_not] at hc
    omega
   rw [hc, Bool.not_false, Bool.true_and] at hpre
   refine ifC.mk (fun hq => ?_) (fun hq => ?_)
   ·have hq : x.b = -1 := by simpa using hq
    rw [decide_eq_true (show x.b < 0 by omega), Bool.true_or] at hpre
    have hpar : parI a b l i = true := by rw [parI, eb, decide_eq_true (show x.b < 0 by omega), Bool.true_or]
    refine ⟨⟨by rw [all_step, hi, hpre]; rfl, by rw [all_step, hi2, hpar]; rfl⟩, ?_⟩
    rw [tkL_neg l i b.length (by omega)]
    refine weak_to [] [0] rfl (by simp) ?_ rfl
    simp only [zN, seval, implies_true, Nat.reduceLeDiff, Nat.reduceEqDiff, reduceCtorEq, reduceIte, intD, @a_wrap ((i:Int) + 1) (by omega)]
    try rfl
   have hq : ¬ x.b = -1 := by simpa using hq
   obtain ⟨q, hq2⟩ : ∃ q : Nat, x.b = q := ⟨x.b.toNat, by omega⟩
   have hqm : q < b.length := by omega
   have hgt := tkL_get l i hqm
   rw [hq2] at hpre eb
   rw [decide_eq_false (show ¬ (q : Int) < 0 by omega), Bool.false_or] at hpre
   simp only [zN, seval, implies_true, Nat.reduceLeDiff, Nat.reduceEqDiff, reduceCtorEq, reduceIte, intD, hq2, tkL_len, hqm, hgt, (show (q:Int) < b.length by omega)]
   repeat ((with_reducible refine And.intro ?_ ?_); (focus (first | omega | (simp only [lenR]; omega) | (refine qq ?_; rfl) | (refine dq ?_; kernel_rfl) | (intros; simp_all; done))))
   refine ifC.mk (fun h5 => ?_) (fun h5 => ?_)
   ·rw [h5] at hpre
    refine ⟨_, _, ret_d, ?_, rfl⟩
    rw [chk_pre h hpre]
   rw [h5] at hpre
   have hst := tkL_set l i b.length eb
   obtain ⟨u, hu⟩ : ∃ u, u = a.getD i default := ⟨_, rfl⟩
   obtain ⟨v, hv⟩ : ∃ v, v = b.getD q default := ⟨_, rfl⟩
   have eu : par a i = u.parent := by rw [hu]; rfl
   have ev : par b q = v.parent := by rw [hv]; rfl
   have egu : (a.map NodeT.toD).getD i default = u.toD := by rw [a_getD _ _ _ h, ← hu]
   have egv : (b.map NodeT.toD).getD q default = v.toD := by rw [a_getD _ _ _ hqm, ← hv]
   have hpar : parI a b l i = parB l u.parent v.parent := by rw [parI, eb, decide_eq_false (show ¬ (q : Int) < 0 by omega), Bool.false_or, eu, show ((q : Int)).toNat = q by omega, ev]
   have tA := tree_par htA h
   rw [eu] at tA
   (try simp only [zN, seval, implies_true, Nat.reduceLeDiff, Nat.reduceEqDiff, reduceCtorEq, reduceIte, intD, hq2, tkL_len, hqm, hst, egu, egv, h, (show (i:Int) < a.length by omega), (show (q:Int) < b.length by omega)])
   repeat ((with_reducible refine And.intro ?_ ?_); (focus (first | omega | (simp only [lenR]; omega) | (refine qq ?_; rfl) | (refine dq ?_; kernel_rfl) | (intros; simp_all; done))))
   refine callG_pure (fun _ => k_partner l u.parent tA.1 (by omega) hl) ?_
   simp only [zN, seval, implies_true, Nat.reduceLeDiff, Nat.reduceEqDiff, reduceCtorEq, reduceIte, intD]
   repeat ((with_reducible refine And.intro ?_ ?_); (focus (first | omega | (simp only [lenR]; omega) | (refine qq ?_; rfl) | (refine dq ?_; kernel_rfl) | (intros; simp_all; done))))
   have hpb : (!((u.parent == -1) == (v.parent == -1)) || (if u.parent = -1 then -1 else pb l u.parent.toNat) != v.parent) = !parI a b l i := by
    rw [hpar, parB]; exact (Bool.not_and _ _).symm
   rw [hpb]
   refine ifC.mk (fun h6 => ?_) (fun h6 => ?_)
   ·have h6 : parI a b l i = false := by simpa using h6
    refine ⟨_, _, ret_d, ?_, rfl⟩
    rw [chk_par h h6]
   ·have h6 : parI a b l i = true := by simpa using h6
    repeat ((with_reducible refine And.intro ?_ ?_); (focus (first | omega | (simp only [lenR]; omega) | (refine qq ?_; rfl) | (refine dq ?_; kernel_rfl) | (intros; simp_all; done))))
    refine ⟨⟨by rw [all_step, hi, hpre]; rfl, by rw [all_step, hi2, h6]; rfl⟩, ?_⟩
    refine weak_to [] [0] rfl (by simp) ?_ rfl
    simp only [zN, seval, implies_true, Nat.reduceLeDiff, Nat.reduceEqDiff, reduceCtorEq, reduceIte, intD, @a_wrap ((i:Int) + 1) (by omega)]
    try rfl
  ·have : i = a.length := by omega
   subst this
   simp only [zN, seval, implies_true, Nat.reduceLeDiff, Nat.reduceEqDiff, reduceCtorEq, reduceIte, intD, (show ¬ (a.length:Int) < a.length by omega)]
   repeat ((with_reducible refine And.intro ?_ ?_); (focus (first | omega | (simp only [lenR]; omega) | (refine qq ?_; rfl) | (refine dq ?_; kernel_rfl) | (intros; simp_all; done))))
   refine for_of b.length (fun k => [(7, .osl 0 0 b.length), (12, .d (.sl ((l.map PairT.toD).drop (tailN l a.length k)))), (97, .d (.sl (b.map NodeT.toD))), (98, .d (.int .i64 b.length)), (99, .d (.int .i64 k))]) (fun _ => [.arr 1 (tkL l a.length b.length)]) (fun k => TailOk l a.length k) (tail_zero _ _) ?_ ?_
   ·refine weak_to [] [0] rfl (by simp) ?_ rfl
    simp only [zN, seval, implies_true, Nat.reduceLeDiff, Nat.reduceEqDiff, reduceCtorEq, reduceIte, intD, Int.cast_ofNat_Int, List.take_of_length_le (show (l.map PairT.toD).length ≤ l.length by simp)]
    rfl
   ·intro k hT hkm
    have hul := unt_len l a.length k
    obtain ⟨N, hN⟩ : ∃ N, N = tailN l a.length k := ⟨_, rfl⟩
    rw [← hN]
    have hN2 : N = a.length + (unt l a.length k).length := hN
    by_cases hk : k < b.length
    ·have hgt := tkL_get l a.length hk
     simp only [zN, seval, implies_true, Nat.reduceLeDiff, Nat.reduceEqDiff, reduceCtorEq, reduceIte, intD, (show (k:Int) < b.length by omega), tkL_len, hk, hgt]
     refine ifC.mk (fun ht => ?_) (fun ht => ?_)
     ·have hun : tailN l a.length (k + 1) = N := by rw [tailN, unt_step, if_pos ht, List.append_nil, hN2]
      refine ⟨tail_skip hT ht, ?_⟩
      rw [hun]
      refine weak_to [] [0] rfl (by simp) ?_ rfl
      simp only [zN, seval, implies_true, Nat.reduceLeDiff, Nat.reduceEqDiff, reduceCtorEq, reduceIte, intD, @a_wrap ((k:Int) + 1) (by omega)]
      try rfl
     by_cases hNl : N < l.length
     ·obtain ⟨z, hz⟩ : ∃ z, z = l.getD N default := ⟨_, rfl⟩
      have hd : (l.map PairT.toD).drop N = z.toD :: (l.map PairT.toD).drop (N + 1) := by
       rw [List.drop_eq_getElem_cons (by simpa using hNl), hz]; simp [hNl]
      have hne : (((((z.toD :: (l.map PairT.toD).drop (N + 1)).length : Nat) : Int)) == 0) = false := by
       rw [beq_eq_false_iff_ne, List.length_cons]; omega
      rw [hd, hne]
      simp only [zN, seval, implies_true, Nat.reduceLeDiff, Nat.reduceEqDiff, reduceCtorEq, reduceIte, intD, Bool.not_false]
      repeat ((with_reducible refine And.intro ?_ ?_); (focus (first | omega | (simp only [lenR]; omega) | (refine qq ?_; rfl) | (refine dq ?_; kernel_rfl) | (intros; simp_all; done))))
      (try simp only [zN, seval, implies_true, Nat.reduceLeDiff, Nat.reduceEqDiff, reduceCtorEq, reduceIte, intD, PairT.toD])
      repeat ((with_reducible refine And.intro ?_ ?_); (focus (first | omega | (simp only [lenR]; omega) | (refine qq ?_; rfl) | (refine dq ?_; kernel_rfl) | (intros; simp_all; done))))
      have hzv : (z.a == -1 && z.b == (k : Int)) = decide (z = ⟨-1, (k : Int)⟩) := by
       rw [Bool.eq_iff_iff]
       simp only [Bool.and_eq_true, beq_iff_eq, decide_eq_true_eq]
       cases z; simp
      rw [hzv]
      refine ifC.mk (fun h5 => ?_) (fun h5 => ?_)
      ·have h5 : z ≠ ⟨-1, (k : Int)⟩ := by simpa using h5
       refine ⟨_, _, ret_d, ?_, rfl⟩
       rw [chk_tail (tail_bad hk ht (.inr (by rw [← hN2, ← hz]; exact h5)))]
      ·have h5 : z = ⟨-1, (k : Int)⟩ := by simpa using h5
       have hun : tailN l a.length (k + 1) = N + 1 := by rw [tailN, unt_step, if_neg (by rw [ht]; simp), hN2]; simp; omega
       refine ⟨⟨by omega, by omega, fun y hy => ?_⟩, tail_next hT ht (by omega) (by rw [← hN2, ← hz, h5]), ?_⟩
       ·obtain ⟨w, _, rfl⟩ := List.mem_map.1 (List.mem_of_mem_drop hy)
        rfl
       rw [hun]
       refine weak_to [] [0] rfl (by simp) ?_ rfl
       simp only [zN, seval, implies_true, Nat.reduceLeDiff, Nat.reduceEqDiff, reduceCtorEq, reduceIte, intD, @a_wrap ((k:Int) + 1) (by omega), List.take_of_length_le (Nat.le_refl _)]
       try rfl
     ·have hd : (l.map PairT.toD).drop N = [] := List.drop_of_length_le (by simp; omega)
      rw [hd]
      simp only [zN, seval, implies_true, Nat.reduceLeDiff, Nat.reduceEqDiff, reduceCtorEq, reduceIte, intD, Bool.not_true]
      repeat ((with_reducible refine And.intro ?_ ?_); (focus (first | omega | (simp only [lenR]; omega) | (refine qq ?_; rfl) | (refine dq ?_; kernel_rfl) | (intros; simp_all; done))))
      refine ⟨_, _, ret_d, ?_, rfl⟩
      rw [chk_tail (tail_bad hk ht (.inl (by omega)))]
    ·have : k = b.length := by omega
     subst this
     have hca := chk_all h1 h2 h3 hi hi2 hT
     have h8 := hT.1
     rw [List.length_drop] at h8
     simp only [zN, seval, implies_true, Nat.reduceLeDiff, Nat.reduceEqDiff, reduceCtorEq, reduceIte, intD, (show ¬ (b.length:Int) < b.length by omega)]
     refine ⟨_, _, ret_d, ?_, rfl⟩
     rw [hca, List.length_drop, List.length_drop, List.length_map]
     congr 2
     rw [Bool.eq_iff_iff, beq_iff_eq, decide_eq_true_eq]; omega
end YtfmbadfdbjhekaaDoor
end Go.Proofs

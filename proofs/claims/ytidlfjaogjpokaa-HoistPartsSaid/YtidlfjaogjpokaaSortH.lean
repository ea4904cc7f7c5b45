/- The chain's last condition in params.Check: no two of its primes are alike. -/
import Derived.Test.YtidlfjaogjpokaaSortG
import Derived.Test.YtidlfjaogjpokaaSlA
import Derived.Deep.RegionWith
namespace Go.Proofs.Ytidlfjaogjpokaa
open Go.RowKit

theorem sb_of_own {w : World} {base n : Nat} {v : Value} {l : List Int} (h : w.ownsRow base 22 1 v n (ints .u32 l)) (hn : 0 < n) :
    ∃ g cap rest, v = .slice (some ⟨g, 0, none⟩) n cap ∧ base ≤ g ∧ n ≤ cap ∧ SB rest w g l.toArray := by
  obtain ⟨hlen, h | ⟨g, cap, cur, hv, hb, hg, hc, hc2, hsz, htk⟩⟩ := h
  · omega
  · refine ⟨g, cap, cur.toList.drop n, hv, hb, hc, ?_⟩
    unfold SB Blk
    rw [hg]
    congr 2
    have e : cur.toList = ints .u32 l ++ cur.toList.drop n := by
      conv => lhs; rw [← List.take_append_drop n cur.toList]
      rw [show List.take n cur.toList = ints .u32 l by rw [← htk, Nat.mul_one]]
    rw [show cur = cur.toList.toArray by simp]
    conv => lhs; rw [e]

/-- neighbours of an ascending list -/
theorem adj_sorted : ∀ (l : List Int) (pre : List Int) , (pre ++ l).Pairwise (fun x y : Int => x ≤ y) → l ≠ [] → adjFrom (pre ++ l).toArray (l.length - 1) (pre.length + 1) = decide l.Nodup
  | [], _, _, h => absurd rfl h
  | [x], pre, _, _ => by simp [adjFrom]
  | x :: y :: l, pre, hp, _ => by
    have ih := adj_sorted (y :: l) (pre ++ [x]) (by simpa using hp) (by simp)
    simp only [List.append_assoc, List.singleton_append, List.length_append, List.length_singleton, List.length_cons, List.length_nil, Nat.zero_add, Nat.add_sub_cancel] at ih ⊢
    rw [adjFrom, ih]
    have e1 : (pre ++ x :: y :: l).toArray[pre.length + 1]! = y := by simp
    have e0 : (pre ++ x :: y :: l).toArray[pre.length + 1 - 1]! = x := by simp
    rw [e1, e0]
    have hxy : ∀ z ∈ y :: l, x ≤ z := by
      have := (List.pairwise_append.1 hp).2.1
      exact (List.pairwise_cons.1 this).1
    have hy : ∀ z ∈ l, y ≤ z := by
      have := (List.pairwise_append.1 hp).2.1
      exact (List.pairwise_cons.1 (List.pairwise_cons.1 this).2).1
    by_cases h : y = x
    · subst h
      simp
    · rw [if_neg h]
      have : x ∉ y :: l := by
        intro hm
        rcases List.mem_cons.1 hm with e | e
        · exact h e.symm
        · have h1 := hy x e
          have h2 := hxy y (by simp)
          omega
      exact decide_eq_decide.2 ⟨fun hn => List.nodup_cons.2 ⟨this, hn⟩, fun hn => (List.nodup_cons.1 hn).2⟩

theorem adj_nodup (l : List Int) (h : l ≠ []) : adjFrom (l.mergeSort (fun x y => !lt32 y x)).toArray (l.length - 1) 1 = decide l.Nodup := by
  have hp := List.mergeSort_perm l (fun x y => !lt32 y x)
  have hs := List.pairwise_mergeSort (le := fun x y => !lt32 y x) (by intro a b c h1 h2; simp [lt32, Sort.ltInt] at h1 h2 ⊢; omega) (by intro a b; simp [lt32, Sort.ltInt]; omega) l
  have h1 := adj_sorted (l.mergeSort (fun x y => !lt32 y x)) [] (by
    rw [List.nil_append]
    exact hs.imp (by intro a b hab; simp [lt32, Sort.ltInt] at hab; omega)) (by intro e; rw [e] at hp; exact h (List.Perm.eq_nil hp.symm))
  simp only [List.nil_append, List.length_nil, Nat.zero_add, hp.length_eq] at h1
  rw [h1]
  exact decide_eq_decide.2 hp.nodup_iff

theorem grown_cell {w w' : World} {g b : Nat} (h : w.grownBy w' (some g)) (hb : b < w.heap.size) (hne : b ≠ g) (o : Nat) : w'.cell? ⟨b, o, none⟩ = w.cell? ⟨b, o, none⟩ :=
  World.cell?_of_block (w := w) (h.block b hb (by intro e; injection e with e; exact hne e))

set_option maxRecDepth 100000 in
set_option maxHeartbeats 1000000 in
theorem check7_any (ad : Addr) (l : List Int) (c b : Nat) (w : World) (hl : Rd w (some ad) (ints .u32 l)) (h1 : 1 ≤ l.length) (h24 : l.length ≤ 24) (hc : w.cell? ⟨b, 3, none⟩ = some (.slice (some ad) l.length c)) :
    Calls Try.prog 74 #[.pointer (some ⟨b, 0, none⟩)] w fun e w' => e = .returned (.bool (decide l.Nodup)) ∧ Below w.heap.size w w' := by
  have cc := Lib.hid (clone_u32 ad l c w hl (by omega))
  have hlt := lt_of_cell hc
  have HC := Lib.hid hc
  obtain ⟨n, hn⟩ : ∃ n, n = l.length := ⟨_, rfl⟩
  have HA := Lib.hid (adj_nodup l (by intro e; rw [e] at h1; simp at h1))
  rw [← hn] at cc hc HC h1 h24 HA
  have HN := Lib.hid hn
  clear hl hn
  go_enter Try.func74, Try.ntmps74
  go_wp2_with fail
  refine cc.out.mono ?_
  rintro e1 w1 ⟨v, rfl, hown, hb1⟩
  obtain ⟨g, cap, rest, rfl, hg, hcap, hS⟩ := sb_of_own hown (by omega)
  have cs := Lib.hid (sort_any rest g n cap l.toArray w1 hS (by simpa using HN.out.symm) h24)
  clear hown hS
  go_wp2_with fail
  refine cs.out.mono ?_
  rintro e2 w2 ⟨rfl, hS, hG⟩
  have hb2 : Below w.heap.size w w2 := Below.grown hb1 hG hb1.size (by rintro k hk; injection hk with hk; omega)
  have hc2 : w2.cell? ⟨b, 3, none⟩ = some (.slice (some ad) n c) := (hb2.cell hlt).trans HC.out
  have HS := Lib.hid hS
  clear hS hc cc cs
  have HT : Hid ((List.mergeSort l (fun x y => !lt32 y x)).toArray.size = n) := Lib.hid (by simp [HN.out])
  have hlt2 : b < w2.heap.size := Nat.lt_of_lt_of_le hlt hb2.size
  have hne : b ≠ g := by omega
  have HG := Lib.hid hG
  have HB1 := Lib.hid hb1
  have HB2 := Lib.hid hb2
  clear hG hb1 hb2
  go_wp2
  go_region_with (go_at_call 77; refine (compact_any rest g n cap _ _ (by exact HS.out) HT.out h24 hcap).mono ?_; rintro e3 w3 ⟨⟨A3, m3, c3, rfl, hm3⟩, hG3⟩; have hc3 : w3.cell? ⟨b, 3, none⟩ = some (.slice (some ad) n c) := (grown_cell hG3 hlt2 hne 3).trans hc2; have HM3 := Lib.hid hm3; clear hm3)
  all_goals
    go_wp2
    go_ret
    have hB3 : Below w.heap.size w w3 := Below.grown (bl_drewN HB2.out 1) hG3 HB2.out.size (by rintro k hk; injection hk with hk; omega)
    refine ⟨ret_bool ?_, by exact hB3⟩
    rw [← HA.out, ← HM3.out]
    by_cases hmn : m3 = n
    · subst hmn; simp
    · rw [decide_eq_false hmn]; simp; omega
end Go.Proofs.Ytidlfjaogjpokaa

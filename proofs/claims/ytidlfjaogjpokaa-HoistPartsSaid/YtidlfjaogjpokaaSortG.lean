/- The walk of slices.Compact at []uint32 (its answer's length alone), and of the chain's condition in params.Check. -/
import Derived.Test.YtidlfjaogjpokaaSortF
import Derived.Lib.SliceRun
namespace Go.Proofs.Ytidlfjaogjpokaa
open Go.RowKit

/-- no two neighbours are alike, c of them from k on -/
def adjFrom (d : Array Int) : Nat → Nat → Bool
  | 0, _ => true
  | c + 1, k => if d[k]! = d[k - 1]! then false else adjFrom d c (k + 1)

theorem grown_setCells {b : Nat} : ∀ (vs : List Value) (o : Nat) {w w' : World}, w.grownBy w' (some b) → w.grownBy (w'.setCells b o vs) (some b)
  | [], _, _, _, h => h
  | v :: r, o, _, _, h => grown_setCells r (o + 1) (grown_set h o v)

set_option maxRecDepth 100000 in
set_option maxHeartbeats 1000000 in
theorem compact_any (rest : List Value) (b n cap : Nat) (d : Array Int) (w : World) (h : SB rest w b d) (hn : d.size = n) (hs : n ≤ 24) (hcap : n ≤ cap) :
    Calls Try.prog 77 #[.slice (some ⟨b, 0, none⟩) n cap] w
      fun r w' => (∃ (A : Option Addr) (m c' : Nat), r = .returned (.slice A m c') ∧ decide (m = n) = adjFrom d (n - 1) 1) ∧ w.grownBy w' (some b) := by
  have hS := h
  have hG := grown_refl w (some b)
  have HN := Lib.hid hn
  clear h hn
  by_cases h2 : n < 2
  · have HR : Hid (adjFrom d (n - 1) 1 = true) := Lib.hid (by rw [show n - 1 = 0 by omega]; rfl)
    go_enter Try.func77, Try.ntmps77
    go_wp2
    go_ret
    exact ⟨⟨_, n, cap, rfl, by rw [HR.out]; simp⟩, hG⟩
  · go_enter Try.func77, Try.ntmps77
    go_wp2
    go_loopw [3] (fun x wr => ∃ k : Nat, x = .int .i64 (k + 1) ∧ k + 1 ≤ n ∧ SB rest wr b d ∧ w.grownBy wr (some b) ∧ Hid (adjFrom d (n - (k + 1)) (k + 1) = adjFrom d (n - 1) 1)) (fun x _ => n + 2 - (intOf x).toNat)
    case atStart => exact ⟨0, by go_num, by omega, hS, hG, Lib.hid rfl⟩
    case round =>
      clear hS hG
      obtain ⟨k, rfl, k1, hS, hG, HK⟩ := hrel
      by_cases hk : k + 1 < n
      · have c1 := hS.cell (i := k + 1) (by have := HN.out; omega)
        have c0 := hS.cell (i := k) (by have := HN.out; omega)
        have hd : decide ((k : Int) + 1 < (n : Int)) = true := decide_eq_true (by omega)
        obtain ⟨u, hu⟩ : ∃ u, u = d[k + 1]! := ⟨_, rfl⟩
        obtain ⟨v, hv⟩ : ∃ v, v = d[k]! := ⟨_, rfl⟩
        rw [← hu] at c1
        rw [← hv] at c0
        have HK2 : Hid (adjFrom d (n - 1) 1 = if u = v then false else adjFrom d (n - (k + 2)) (k + 2)) := Lib.hid (by
          rw [← HK.out, show n - (k + 1) = (n - (k + 2)) + 1 by omega, adjFrom, hu, hv]; rfl)
        clear HK hu hv
        by_cases huv : u = v
        · have HF : Hid (adjFrom d (n - 1) 1 = false) := Lib.hid (by rw [HK2.out, if_pos huv])
          clear HK2
          subst huv
          obtain ⟨m, hm⟩ : ∃ m : Nat, n - (k + 1) = m := ⟨_, rfl⟩
          obtain ⟨cm, hcm⟩ : ∃ cm : Nat, cap - (k + 1) = cm := ⟨_, rfl⟩
          have m1 : k + 1 + m ≤ n := by omega
          have m2 : n ≤ k + 1 + m := by omega
          have m3 : k + 1 + cm ≤ cap := by omega
          have m4 : cap ≤ k + 1 + cm := by omega
          go_wp2
          go_quiet (fail)
          go_wp2
          clear hm hcm c0 c1
          obtain ⟨wo, rfl⟩ : ∃ wo : World, wo = wr := ⟨_, rfl⟩
          go_loopw [3, 5] (fun x y wr => ∃ (i j : Nat) (d' : Array Int), x = .int .i64 (i + 1) ∧ y = .int .i64 (j + 1) ∧ j + 1 ≤ m ∧ i ≤ k + j ∧ d'.size ≤ n ∧ n ≤ d'.size ∧ SB rest wr b d' ∧ w.grownBy wr (some b)) (fun _ y _ => m + 2 - (intOf y).toNat)
          case atStart => exact ⟨k, 0, d, by go_num, by go_num, by omega, by omega, by have := HN.out; omega, by have := HN.out; omega, by first | exact hS | exact hS.drewN _, by first | exact hG | exact grown_drewN hG _⟩
          case round =>
            clear hS hG
            obtain ⟨i, j, d', rfl, rfl, j1, i1, z1, z2, hS, hG⟩ := hrel
            by_cases hj : j + 1 < m
            · have c1 := hS.cell (i := k + 1 + (j + 1)) (by omega)
              have c0 := hS.cell (i := k + 1 + j) (by omega)
              have fi := hS.frozen (i + 1)
              have ci := hS.cell (i := i + 1) (by omega)
              have hd2 : decide ((j : Int) + 1 < (m : Int)) = true := decide_eq_true (by omega)
              obtain ⟨x, hx⟩ : ∃ x, x = d'[k + 1 + (j + 1)]! := ⟨_, rfl⟩
              obtain ⟨y, hy⟩ : ∃ y, y = d'[k + 1 + j]! := ⟨_, rfl⟩
              rw [← hx] at c1
              rw [← hy] at c0
              clear hx hy
              by_cases hxy : x = y
              · subst hxy
                go_wp2
                go_quiet (fail)
                go_wp2
                exact ⟨⟨i, j + 1, d', rfl, by go_num, by omega, by omega, z1, z2, by first | exact hS | exact hS.drewN _, by first | exact hG | exact grown_drewN hG _⟩, by simp [intOf] <;> omega⟩
              · go_wp2
                go_quiet (fail)
                go_wp2
                have hz : (d'.setIfInBounds (i + 1) x).size = d'.size := by simp
                exact ⟨⟨i + 1, j + 1, d'.setIfInBounds (i + 1) x, by go_num, by go_num, by omega, by omega, by omega, by omega, SB.set1 (SB.drewN hS _) (by omega) _, grown_set (grown_drewN hG _) _ _⟩, by simp [intOf] <;> omega⟩
            · have hd2 : decide ((j : Int) + 1 < (m : Int)) = false := decide_eq_false (by omega)
              have hcl : ∀ ty, (Builtin.clear_ #[23] ty #[.slice (some ⟨b, i + 1, none⟩) (n - (i + 1)) (cap - (i + 1))]).run Try.prog wr = .ok (.tuple #[]) (wr.setCells b (i + 1) (List.replicate (n - (i + 1)) (.int .u32 0))) :=
                fun ty => Lib.run_clear_slice wr _ 22 ty _ Try.underlying23 (fun _ => rfl) rfl rfl b (i + 1) _ _ (by omega) (fun q hq => by rw [hS.cell (i := i + 1 + q) (by omega)]; rfl) (fun q hq => hS.frozen _)
              have hG2 := grown_setCells (List.replicate (n - (i + 1)) (.int .u32 0)) (i + 1) hG
              go_wp2
              go_ret
              exact ⟨⟨_, i + 1, _, rfl, by rw [HF.out]; simp; omega⟩, hG2⟩
        · have HF : Hid (adjFrom d (n - (k + 2)) (k + 2) = adjFrom d (n - 1) 1) := Lib.hid (by rw [HK2.out, if_neg huv])
          clear HK2
          go_wp2
          go_quiet (fail)
          go_wp2
          exact ⟨⟨k + 1, by go_num, by omega, by first | exact hS | exact hS.drewN _, by first | exact hG | exact grown_drewN hG _, HF⟩, by simp [intOf] <;> omega⟩
      · have hd : decide ((k : Int) + 1 < (n : Int)) = false := decide_eq_false (by omega)
        have HF : Hid (adjFrom d (n - 1) 1 = true) := Lib.hid (by rw [← HK.out, show n - (k + 1) = 0 by omega]; rfl)
        clear HK
        go_wp2
        go_ret
        exact ⟨⟨_, n, cap, rfl, by rw [HF.out]; simp⟩, hG⟩
end Go.Proofs.Ytidlfjaogjpokaa

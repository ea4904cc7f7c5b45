/- The walks of slices' sort at []uint32, second part: the partitions. -/
import Derived.Test.YtidlfjaogjpokaaSortA
import Derived.Deep.DeepCutAuto
import Derived.Deep.LoopGhost
import Derived.Deep.CutBlock
namespace Go.Proofs.Ytidlfjaogjpokaa
open Go.RowKit

set_option maxRecDepth 100000 in
set_option maxHeartbeats 1000000 in
theorem partition_any (rest : List Value) (b n cap : Nat) (d : Array Int) (a e p : Nat) (w : World) (h : SB rest w b d) (hn : d.size = n) (hp1 : a ≤ p) (hp2 : p < e) (he : e ≤ n) (hs : n ≤ 100000) :
    Calls Try.prog 96 #[.slice (some ⟨b, 0, none⟩) n cap, .int .i64 a, .int .i64 e, .int .i64 p] w
      fun r w' => r = .returned (.tuple #[.int .i64 (Sort.partition lt32 d a e p).1, .bool (Sort.partition lt32 d a e p).2.1]) ∧ SB rest w' b (Sort.partition lt32 d a e p).2.2 ∧ w.grownBy w' (some b) := by
  obtain ⟨q, hq⟩ : ∃ q : Nat, e = q + 1 := ⟨e - 1, by omega⟩
  have hq' : (e : Int) - 1 = q := by omega
  have hq1 : a ≤ q := by omega
  have hq2 : q < n := by omega
  have hq3 : p ≤ q := by omega
  have HP := Lib.hid (show Sort.partition lt32 d a e p = Sort.partition lt32 d a (q + 1) p by rw [hq])
  have hS := h
  have hG := grown_refl w (some b)
  have HN := Lib.hid hn
  have HN0 := Lib.hid hn
  clear hq h hn
  go_enter Try.func96, Try.ntmps96
  go_upto_region 1 with fail
  go_cut [] (fun wr => SB rest wr b (Sort.swp d (a) (p)) ∧ w.grownBy wr (some b))
  case first =>
    have hsz : d.size = n := HN.out
    by_cases hij : a = p
    · subst hij
      have c1 := hS.cell (i := a) (by omega)
      have c2 := hS.cell (i := a) (by omega)
      have f1 := hS.frozen (a)
      have f2 := hS.frozen (a)
      go_region
      go_wp2
      go_meet
      case rel => exact ⟨SB.swap (SB.drewN hS _) (by omega) (by omega), grown_set (grown_set (grown_drewN hG _) _ _) _ _⟩
    · have c1 := hS.cell (i := a) (by omega)
      have c2 := hS.cell (i := p) (by omega)
      have f1 := hS.frozen (a)
      have f2 := hS.frozen (p)
      go_region
      go_wp2
      go_meet
      case rel => exact ⟨SB.swap (SB.drewN hS _) (by omega) (by omega), grown_set (grown_set (grown_drewN hG _) _ _) _ _⟩
  case rest =>
    obtain ⟨hS, hG⟩ := hcut
    have hz1 : (Sort.swp d a p).size = n := by simp [Sort.swp, HN.out]
    have HD : Hid (Sort.partition lt32 d a (q + 1) p = if Sort.scanUp (fun x => lt32 x (Sort.swp d a p)[a]!) (Sort.swp d a p) q (a + 1) > Sort.scanDown (fun x => !lt32 x (Sort.swp d a p)[a]!) (Sort.swp d a p) (Sort.scanUp (fun x => lt32 x (Sort.swp d a p)[a]!) (Sort.swp d a p) q (a + 1)) q then
      (Sort.scanDown (fun x => !lt32 x (Sort.swp d a p)[a]!) (Sort.swp d a p) (Sort.scanUp (fun x => lt32 x (Sort.swp d a p)[a]!) (Sort.swp d a p) q (a + 1)) q, true, Sort.swp (Sort.swp d a p) (Sort.scanDown (fun x => !lt32 x (Sort.swp d a p)[a]!) (Sort.swp d a p) (Sort.scanUp (fun x => lt32 x (Sort.swp d a p)[a]!) (Sort.swp d a p) q (a + 1)) q) a)
      else ((Sort.partLoop lt32 a (Sort.scanUp (fun x => lt32 x (Sort.swp d a p)[a]!) (Sort.swp d a p) q (a + 1) + 1) (Sort.scanDown (fun x => !lt32 x (Sort.swp d a p)[a]!) (Sort.swp d a p) (Sort.scanUp (fun x => lt32 x (Sort.swp d a p)[a]!) (Sort.swp d a p) q (a + 1)) q - 1) (Sort.swp (Sort.swp d a p) (Sort.scanUp (fun x => lt32 x (Sort.swp d a p)[a]!) (Sort.swp d a p) q (a + 1)) (Sort.scanDown (fun x => !lt32 x (Sort.swp d a p)[a]!) (Sort.swp d a p) (Sort.scanUp (fun x => lt32 x (Sort.swp d a p)[a]!) (Sort.swp d a p) q (a + 1)) q))).1, false, Sort.swp (Sort.partLoop lt32 a (Sort.scanUp (fun x => lt32 x (Sort.swp d a p)[a]!) (Sort.swp d a p) q (a + 1) + 1) (Sort.scanDown (fun x => !lt32 x (Sort.swp d a p)[a]!) (Sort.swp d a p) (Sort.scanUp (fun x => lt32 x (Sort.swp d a p)[a]!) (Sort.swp d a p) q (a + 1)) q - 1) (Sort.swp (Sort.swp d a p) (Sort.scanUp (fun x => lt32 x (Sort.swp d a p)[a]!) (Sort.swp d a p) q (a + 1)) (Sort.scanDown (fun x => !lt32 x (Sort.swp d a p)[a]!) (Sort.swp d a p) (Sort.scanUp (fun x => lt32 x (Sort.swp d a p)[a]!) (Sort.swp d a p) q (a + 1)) q))).2 (Sort.partLoop lt32 a (Sort.scanUp (fun x => lt32 x (Sort.swp d a p)[a]!) (Sort.swp d a p) q (a + 1) + 1) (Sort.scanDown (fun x => !lt32 x (Sort.swp d a p)[a]!) (Sort.swp d a p) (Sort.scanUp (fun x => lt32 x (Sort.swp d a p)[a]!) (Sort.swp d a p) q (a + 1)) q - 1) (Sort.swp (Sort.swp d a p) (Sort.scanUp (fun x => lt32 x (Sort.swp d a p)[a]!) (Sort.swp d a p) q (a + 1)) (Sort.scanDown (fun x => !lt32 x (Sort.swp d a p)[a]!) (Sort.swp d a p) (Sort.scanUp (fun x => lt32 x (Sort.swp d a p)[a]!) (Sort.swp d a p) q (a + 1)) q))).1 a)) := Lib.hid (by rw [Sort.partition]; rfl)
    clear HN HN0
    generalize Sort.swp d a p = d1 at hS hz1 HD
    go_upto_block 0 with fail
    go_cut [10] (fun x wr => ∃ i : Nat, x = .int .i64 i ∧ (a + 1) ≤ i ∧ i ≤ q + 2 ∧ SB rest wr b d1 ∧ w.grownBy wr (some b) ∧ Hid (i = Sort.scanUp (fun x => lt32 x d1[a]!) d1 q (a + 1)))
    case first =>
      go_wp2
      go_loopw [10] (fun x wr => ∃ i : Nat, x = .int .i64 i ∧ (a + 1) ≤ i ∧ i ≤ q + 2 ∧ SB rest wr b d1 ∧ w.grownBy wr (some b) ∧ Hid (Sort.scanUp (fun x => lt32 x d1[a]!) d1 q i = Sort.scanUp (fun x => lt32 x d1[a]!) d1 q (a + 1))) (fun x _ => q + 3 - (intOf x).toNat)
      case atStart => exact ⟨(a + 1), by first | rfl | go_num, by omega, by omega, by first | exact hS | exact SB.drewN hS _, by first | exact hG | exact grown_drewN hG _, Lib.hid rfl⟩
      case round =>
        obtain ⟨i, rfl, u1, u2, hS, hG, U3⟩ := hrel
        have ca := hS.cell (i := a) (by omega)
        by_cases hi : i ≤ q
        · have ci := hS.cell (i := i) (by omega)
          have hd : decide ((i : Int) ≤ (q : Int)) = true := decide_eq_true (by omega)
          by_cases hp : lt32 d1[i]! d1[a]! = true
          · have U4 : Hid (Sort.scanUp (fun x => lt32 x d1[a]!) d1 q (i + 1) = Sort.scanUp (fun x => lt32 x d1[a]!) d1 q (a + 1)) := Lib.hid (by
              rw [← U3.out]; conv => rhs; rw [Sort.scanUp]
              simp [hi, hp])
            clear U3
            go_wp2
            go_quiet ((go_at_call 94; exact quiet_at (less_any _ _ _) ⟨_, rfl⟩))
            rw [hp]
            go_wp2
            exact ⟨⟨i + 1, by go_num, by omega, by omega, hS.drewN _, grown_drewN hG _, U4⟩, by simp [intOf] <;> omega⟩
          · replace hp : lt32 d1[i]! d1[a]! = false := by simpa using hp
            have U4 : Hid (i = Sort.scanUp (fun x => lt32 x d1[a]!) d1 q (a + 1)) := Lib.hid (by rw [← U3.out, Sort.scanUp]; simp [hp])
            clear U3
            go_wp2
            go_quiet ((go_at_call 94; exact quiet_at (less_any _ _ _) ⟨_, rfl⟩))
            rw [hp]
            go_wp2
            go_meet
            case rel => exact ⟨i, rfl, by omega, by omega, hS.drewN _, grown_drewN hG _, U4⟩
        · have hd : decide ((i : Int) ≤ (q : Int)) = false := decide_eq_false (by omega)
          have U4 : Hid (i = Sort.scanUp (fun x => lt32 x d1[a]!) d1 q (a + 1)) := Lib.hid (by rw [← U3.out, Sort.scanUp]; simp [hi])
          clear U3
          go_wp2
          go_quiet (fail)
          go_wp2
          go_meet
          case rel => exact ⟨i, rfl, by omega, by omega, hS.drewN _, grown_drewN hG _, U4⟩
    case rest =>
      obtain ⟨i1, rfl, v1, v2, hS, hG, V3⟩ := hcut
      have HD1 := Lib.hid HD.out
      rw [← V3.out] at HD1
      clear HD V3
      go_upto_block 2 with fail
      go_cut [11] (fun x wr => ∃ j : Nat, x = .int .i64 j ∧ i1 ≤ j + 2 ∧ j ≤ q ∧ SB rest wr b d1 ∧ w.grownBy wr (some b) ∧ Hid (j = Sort.scanDown (fun x => !lt32 x d1[a]!) d1 i1 q))
      case first =>
        go_wp2
        go_loopw [11] (fun x wr => ∃ j : Nat, x = .int .i64 j ∧ i1 ≤ j + 2 ∧ j ≤ q ∧ SB rest wr b d1 ∧ w.grownBy wr (some b) ∧ Hid (Sort.scanDown (fun x => !lt32 x d1[a]!) d1 i1 j = Sort.scanDown (fun x => !lt32 x d1[a]!) d1 i1 q)) (fun x _ => (intOf x).toNat)
        case atStart => exact ⟨q, by first | rfl | go_num, by omega, by omega, by first | exact hS | exact SB.drewN hS _, by first | exact hG | exact grown_drewN hG _, Lib.hid rfl⟩
        case round =>
          obtain ⟨j, rfl, u1, u2, hS, hG, U3⟩ := hrel
          have ca := hS.cell (i := a) (by omega)
          by_cases hi : i1 ≤ j
          · obtain ⟨m, hm⟩ : ∃ m : Nat, j = m + 1 := ⟨j - 1, by omega⟩
            have hm' : (j : Int) - 1 = m := by omega
            have ci := hS.cell (i := j) (by omega)
            have hd : decide ((i1 : Int) ≤ (j : Int)) = true := decide_eq_true (by omega)
            by_cases hp : lt32 d1[j]! d1[a]! = false
            · have U4 : Hid (Sort.scanDown (fun x => !lt32 x d1[a]!) d1 i1 m = Sort.scanDown (fun x => !lt32 x d1[a]!) d1 i1 q) := Lib.hid (by
                rw [← U3.out]; conv => rhs; rw [hm, Sort.scanDown]
                rw [← hm]; simp [hi, hp])
              clear U3 hm
              go_wp2
              go_quiet ((go_at_call 94; exact quiet_at (less_any _ _ _) ⟨_, rfl⟩))
              rw [hp]
              go_wp2
              exact ⟨⟨m, rfl, by omega, by omega, hS.drewN _, grown_drewN hG _, U4⟩, by simp [intOf] <;> omega⟩
            · replace hp : lt32 d1[j]! d1[a]! = true := by simpa using hp
              have U4 : Hid (j = Sort.scanDown (fun x => !lt32 x d1[a]!) d1 i1 q) := Lib.hid (by rw [← U3.out, hm, Sort.scanDown, ← hm]; simp [hp])
              clear U3 hm
              go_wp2
              go_quiet ((go_at_call 94; exact quiet_at (less_any _ _ _) ⟨_, rfl⟩))
              rw [hp]
              go_wp2
              go_meet
              case rel => exact ⟨j, rfl, by omega, by omega, hS.drewN _, grown_drewN hG _, U4⟩
          · have hd : decide ((i1 : Int) ≤ (j : Int)) = false := decide_eq_false (by omega)
            have U4 : Hid (j = Sort.scanDown (fun x => !lt32 x d1[a]!) d1 i1 q) := Lib.hid (by rw [← U3.out]; rcases j with _ | m <;> rw [Sort.scanDown]; simp [hi])
            clear U3
            go_wp2
            go_quiet (fail)
            go_wp2
            go_meet
            case rel => exact ⟨j, rfl, by omega, by omega, hS.drewN _, grown_drewN hG _, U4⟩
      case rest =>
        obtain ⟨j1, rfl, v4, v5, hS, hG, V6⟩ := hcut
        have HD2 := Lib.hid HD1.out
        rw [← V6.out] at HD2
        clear HD1 V6
        by_cases hij : j1 < i1
        · have HE : Hid (Sort.partition lt32 d a e p = (j1, true, Sort.swp d1 j1 a)) := Lib.hid (by rw [HP.out, HD2.out, if_pos hij])
          have hd : decide ((j1 : Int) < (i1 : Int)) = true := decide_eq_true (by omega)
          clear HD2
          go_upto_region 8 with fail
          go_cut [] (fun wr => SB rest wr b (Sort.swp d1 (j1) (a)) ∧ w.grownBy wr (some b))
          case first =>
            have hsz : d1.size = n := hz1
            by_cases hij : j1 = a
            · subst hij
              have c1 := hS.cell (i := j1) (by omega)
              have c2 := hS.cell (i := j1) (by omega)
              have f1 := hS.frozen (j1)
              have f2 := hS.frozen (j1)
              go_region
              go_wp2
              go_meet
              case rel => exact ⟨SB.swap (SB.drewN hS _) (by omega) (by omega), grown_set (grown_set (grown_drewN hG _) _ _) _ _⟩
            · have c1 := hS.cell (i := j1) (by omega)
              have c2 := hS.cell (i := a) (by omega)
              have f1 := hS.frozen (j1)
              have f2 := hS.frozen (a)
              go_region
              go_wp2
              go_meet
              case rel => exact ⟨SB.swap (SB.drewN hS _) (by omega) (by omega), grown_set (grown_set (grown_drewN hG _) _ _) _ _⟩
          case rest =>
            obtain ⟨hS, hG⟩ := hcut
            go_wp2
            go_ret2
            exact ⟨ret_ib (by rw [HE.out]) (by rw [HE.out]), by rw [HE.out]; exact hS, hG⟩
        · have hd : decide ((j1 : Int) < (i1 : Int)) = false := decide_eq_false (by omega)
          obtain ⟨m, hm⟩ : ∃ m : Nat, j1 = m + 1 := ⟨j1 - 1, by omega⟩
          have HM := Lib.hid hm
          have hm' : (j1 : Int) - 1 = m := by omega
          have hm1 : m + 1 ≤ j1 := by omega
          have hm2 : j1 ≤ m + 1 := by omega
          have HE : Hid (Sort.partition lt32 d a e p = ((Sort.partLoop lt32 a (i1 + 1) m (Sort.swp d1 i1 j1)).1, false, Sort.swp (Sort.partLoop lt32 a (i1 + 1) m (Sort.swp d1 i1 j1)).2 (Sort.partLoop lt32 a (i1 + 1) m (Sort.swp d1 i1 j1)).1 a)) := Lib.hid (by
            rw [HP.out, HD2.out, if_neg hij, show j1 - 1 = m from by omega])
          clear HD2 hm
          go_upto_region 10 with fail
          go_cut [] (fun wr => SB rest wr b (Sort.swp d1 (i1) (j1)) ∧ w.grownBy wr (some b))
          case first =>
            have hsz : d1.size = n := hz1
            by_cases hij : i1 = j1
            · subst hij
              have c1 := hS.cell (i := i1) (by omega)
              have c2 := hS.cell (i := i1) (by omega)
              have f1 := hS.frozen (i1)
              have f2 := hS.frozen (i1)
              go_region
              go_wp2
              go_meet
              case rel => exact ⟨SB.swap (SB.drewN hS _) (by omega) (by omega), grown_set (grown_set (grown_drewN hG _) _ _) _ _⟩
            · have c1 := hS.cell (i := i1) (by omega)
              have c2 := hS.cell (i := j1) (by omega)
              have f1 := hS.frozen (i1)
              have f2 := hS.frozen (j1)
              go_region
              go_wp2
              go_meet
              case rel => exact ⟨SB.swap (SB.drewN hS _) (by omega) (by omega), grown_set (grown_set (grown_drewN hG _) _ _) _ _⟩
          case rest =>
            obtain ⟨hS, hG⟩ := hcut
            have hz2 : (Sort.swp d1 i1 j1).size = n := by simp [Sort.swp, hz1]
            clear hz1
            generalize Sort.swp d1 i1 j1 = d2 at hS hz2 HE
            go_wp2
            go_loopg [10, 11] (q + 5) (fun g x y wr => ∃ (ia ja : Nat) (d3 : Array Int), x = .int .i64 ia ∧ y = .int .i64 ja ∧ a + 1 ≤ ia ∧ ia ≤ ja + 2 ∧ ja ≤ q ∧ ja + 3 ≤ g + ia ∧ d3.size ≤ n ∧ n ≤ d3.size ∧ SB rest wr b d3 ∧ w.grownBy wr (some b) ∧ Hid (Sort.partLoop lt32 a ia ja d3 = Sort.partLoop lt32 a (i1 + 1) m d2))
            case atStart => exact ⟨i1 + 1, m, d2, by go_num, rfl, by omega, by omega, by omega, by omega, by omega, by omega, hS, hG, Lib.hid rfl⟩
            case round =>
              clear hS hG
              obtain ⟨ia, ja, d3, rfl, rfl, w1, w2, w3, w4, w5, w6, hS, hG, W7⟩ := hrel
              go_upto_block 6 with fail
              go_cut [10] (fun x wr => ∃ i : Nat, x = .int .i64 i ∧ ia ≤ i ∧ i ≤ ja + 2 ∧ SB rest wr b d3 ∧ w.grownBy wr (some b) ∧ Hid (i = Sort.scanUp (fun x => lt32 x d3[a]!) d3 ja ia))
              case first =>
                go_wp2
                go_loopw [10] (fun x wr => ∃ i : Nat, x = .int .i64 i ∧ ia ≤ i ∧ i ≤ ja + 2 ∧ SB rest wr b d3 ∧ w.grownBy wr (some b) ∧ Hid (Sort.scanUp (fun x => lt32 x d3[a]!) d3 ja i = Sort.scanUp (fun x => lt32 x d3[a]!) d3 ja ia)) (fun x _ => ja + 3 - (intOf x).toNat)
                case atStart => exact ⟨ia, by first | rfl | go_num, by omega, by omega, by first | exact hS | exact SB.drewN hS _, by first | exact hG | exact grown_drewN hG _, Lib.hid rfl⟩
                case round =>
                  obtain ⟨i, rfl, u1, u2, hS, hG, U3⟩ := hrel
                  have ca := hS.cell (i := a) (by omega)
                  by_cases hi : i ≤ ja
                  · have ci := hS.cell (i := i) (by omega)
                    have hd : decide ((i : Int) ≤ (ja : Int)) = true := decide_eq_true (by omega)
                    by_cases hp : lt32 d3[i]! d3[a]! = true
                    · have U4 : Hid (Sort.scanUp (fun x => lt32 x d3[a]!) d3 ja (i + 1) = Sort.scanUp (fun x => lt32 x d3[a]!) d3 ja ia) := Lib.hid (by
                        rw [← U3.out]; conv => rhs; rw [Sort.scanUp]
                        simp [hi, hp])
                      clear U3
                      go_wp2
                      go_quiet ((go_at_call 94; exact quiet_at (less_any _ _ _) ⟨_, rfl⟩))
                      rw [hp]
                      go_wp2
                      exact ⟨⟨i + 1, by go_num, by omega, by omega, hS.drewN _, grown_drewN hG _, U4⟩, by simp [intOf] <;> omega⟩
                    · replace hp : lt32 d3[i]! d3[a]! = false := by simpa using hp
                      have U4 : Hid (i = Sort.scanUp (fun x => lt32 x d3[a]!) d3 ja ia) := Lib.hid (by rw [← U3.out, Sort.scanUp]; simp [hp])
                      clear U3
                      go_wp2
                      go_quiet ((go_at_call 94; exact quiet_at (less_any _ _ _) ⟨_, rfl⟩))
                      rw [hp]
                      go_wp2
                      go_meet
                      case rel => exact ⟨i, rfl, by omega, by omega, hS.drewN _, grown_drewN hG _, U4⟩
                  · have hd : decide ((i : Int) ≤ (ja : Int)) = false := decide_eq_false (by omega)
                    have U4 : Hid (i = Sort.scanUp (fun x => lt32 x d3[a]!) d3 ja ia) := Lib.hid (by rw [← U3.out, Sort.scanUp]; simp [hi])
                    clear U3
                    go_wp2
                    go_quiet (fail)
                    go_wp2
                    go_meet
                    case rel => exact ⟨i, rfl, by omega, by omega, hS.drewN _, grown_drewN hG _, U4⟩
              case rest =>
                clear hS hG
                obtain ⟨i2, rfl, x1, x2, hS, hG, X3⟩ := hcut
                go_upto_block 8 with fail
                go_cut [11] (fun x wr => ∃ j : Nat, x = .int .i64 j ∧ i2 ≤ j + 2 ∧ j ≤ ja ∧ SB rest wr b d3 ∧ w.grownBy wr (some b) ∧ Hid (j = Sort.scanDown (fun x => !lt32 x d3[a]!) d3 i2 ja))
                case first =>
                  go_wp2
                  go_loopw [11] (fun x wr => ∃ j : Nat, x = .int .i64 j ∧ i2 ≤ j + 2 ∧ j ≤ ja ∧ SB rest wr b d3 ∧ w.grownBy wr (some b) ∧ Hid (Sort.scanDown (fun x => !lt32 x d3[a]!) d3 i2 j = Sort.scanDown (fun x => !lt32 x d3[a]!) d3 i2 ja)) (fun x _ => (intOf x).toNat)
                  case atStart => exact ⟨ja, by first | rfl | go_num, by omega, by omega, by first | exact hS | exact SB.drewN hS _, by first | exact hG | exact grown_drewN hG _, Lib.hid rfl⟩
                  case round =>
                    obtain ⟨j, rfl, u1, u2, hS, hG, U3⟩ := hrel
                    have ca := hS.cell (i := a) (by omega)
                    by_cases hi : i2 ≤ j
                    · obtain ⟨m, hm⟩ : ∃ m : Nat, j = m + 1 := ⟨j - 1, by omega⟩
                      have hm' : (j : Int) - 1 = m := by omega
                      have ci := hS.cell (i := j) (by omega)
                      have hd : decide ((i2 : Int) ≤ (j : Int)) = true := decide_eq_true (by omega)
                      by_cases hp : lt32 d3[j]! d3[a]! = false
                      · have U4 : Hid (Sort.scanDown (fun x => !lt32 x d3[a]!) d3 i2 m = Sort.scanDown (fun x => !lt32 x d3[a]!) d3 i2 ja) := Lib.hid (by
                          rw [← U3.out]; conv => rhs; rw [hm, Sort.scanDown]
                          rw [← hm]; simp [hi, hp])
                        clear U3 hm
                        go_wp2
                        go_quiet ((go_at_call 94; exact quiet_at (less_any _ _ _) ⟨_, rfl⟩))
                        rw [hp]
                        go_wp2
                        exact ⟨⟨m, rfl, by omega, by omega, hS.drewN _, grown_drewN hG _, U4⟩, by simp [intOf] <;> omega⟩
                      · replace hp : lt32 d3[j]! d3[a]! = true := by simpa using hp
                        have U4 : Hid (j = Sort.scanDown (fun x => !lt32 x d3[a]!) d3 i2 ja) := Lib.hid (by rw [← U3.out, hm, Sort.scanDown, ← hm]; simp [hp])
                        clear U3 hm
                        go_wp2
                        go_quiet ((go_at_call 94; exact quiet_at (less_any _ _ _) ⟨_, rfl⟩))
                        rw [hp]
                        go_wp2
                        go_meet
                        case rel => exact ⟨j, rfl, by omega, by omega, hS.drewN _, grown_drewN hG _, U4⟩
                    · have hd : decide ((i2 : Int) ≤ (j : Int)) = false := decide_eq_false (by omega)
                      have U4 : Hid (j = Sort.scanDown (fun x => !lt32 x d3[a]!) d3 i2 ja) := Lib.hid (by rw [← U3.out]; rcases j with _ | m <;> rw [Sort.scanDown]; simp [hi])
                      clear U3
                      go_wp2
                      go_quiet (fail)
                      go_wp2
                      go_meet
                      case rel => exact ⟨j, rfl, by omega, by omega, hS.drewN _, grown_drewN hG _, U4⟩
                case rest =>
                  clear hS hG
                  obtain ⟨j2, rfl, x4, x5, hS, hG, X6⟩ := hcut
                  have W8 : Hid (Sort.partLoop lt32 a ia ja d3 = if i2 > j2 then (j2, d3) else if (j2 - 1) + 1 - (i2 + 1) < ja + 1 - ia then Sort.partLoop lt32 a (i2 + 1) (j2 - 1) (Sort.swp d3 i2 j2) else (j2, d3)) := Lib.hid (by
                    rw [Sort.partLoop]
                    simp only [← X3.out, ← X6.out]
                    split
                    · rfl
                    · split <;> rfl)
                  clear X3 X6
                  by_cases hij2 : j2 < i2
                  · have HF : Hid (Sort.partition lt32 d a e p = (j2, false, Sort.swp d3 j2 a)) := Lib.hid (by
                      rw [HE.out, ← W7.out, W8.out, if_pos hij2])
                    have hd2 : decide ((j2 : Int) < (i2 : Int)) = true := decide_eq_true (by omega)
                    clear HE W7 W8
                    go_upto_region 21 with fail
                    go_cut [] (fun wr => SB rest wr b (Sort.swp d3 (j2) (a)) ∧ w.grownBy wr (some b))
                    case first =>
                      have hsz : d3.size = n := by omega
                      by_cases hij : j2 = a
                      · subst hij
                        have c1 := hS.cell (i := j2) (by omega)
                        have c2 := hS.cell (i := j2) (by omega)
                        have f1 := hS.frozen (j2)
                        have f2 := hS.frozen (j2)
                        go_region
                        go_wp2
                        go_meet
                        case rel => exact ⟨SB.swap (SB.drewN hS _) (by omega) (by omega), grown_set (grown_set (grown_drewN hG _) _ _) _ _⟩
                      · have c1 := hS.cell (i := j2) (by omega)
                        have c2 := hS.cell (i := a) (by omega)
                        have f1 := hS.frozen (j2)
                        have f2 := hS.frozen (a)
                        go_region
                        go_wp2
                        go_meet
                        case rel => exact ⟨SB.swap (SB.drewN hS _) (by omega) (by omega), grown_set (grown_set (grown_drewN hG _) _ _) _ _⟩
                    case rest =>
                      clear hS hG
                      obtain ⟨hS, hG⟩ := hcut
                      go_wp2
                      go_ret2
                      exact ⟨ret_ib (by rw [HF.out]) (by rw [HF.out]), by rw [HF.out]; exact hS, hG⟩
                  · have hd2 : decide ((j2 : Int) < (i2 : Int)) = false := decide_eq_false (by omega)
                    obtain ⟨m2, hm2⟩ : ∃ m : Nat, j2 = m + 1 := ⟨j2 - 1, by omega⟩
                    have hm2' : (j2 : Int) - 1 = m2 := by omega
                    have hm3 : m2 + 1 ≤ j2 := by omega
                    have hm4 : j2 ≤ m2 + 1 := by omega
                    have W9 : Hid (Sort.partLoop lt32 a (i2 + 1) m2 (Sort.swp d3 i2 j2) = Sort.partLoop lt32 a (i1 + 1) m d2) := Lib.hid (by
                      rw [← W7.out, W8.out, if_neg hij2, if_pos (by omega), show j2 - 1 = m2 from by omega])
                    clear W7 W8 hm2
                    go_upto_region 18 with fail
                    go_cut [] (fun wr => SB rest wr b (Sort.swp d3 (i2) (j2)) ∧ w.grownBy wr (some b))
                    case first =>
                      have hsz : d3.size = n := by omega
                      by_cases hij : i2 = j2
                      · subst hij
                        have c1 := hS.cell (i := i2) (by omega)
                        have c2 := hS.cell (i := i2) (by omega)
                        have f1 := hS.frozen (i2)
                        have f2 := hS.frozen (i2)
                        go_region
                        go_wp2
                        go_meet
                        case rel => exact ⟨SB.swap (SB.drewN hS _) (by omega) (by omega), grown_set (grown_set (grown_drewN hG _) _ _) _ _⟩
                      · have c1 := hS.cell (i := i2) (by omega)
                        have c2 := hS.cell (i := j2) (by omega)
                        have f1 := hS.frozen (i2)
                        have f2 := hS.frozen (j2)
                        go_region
                        go_wp2
                        go_meet
                        case rel => exact ⟨SB.swap (SB.drewN hS _) (by omega) (by omega), grown_set (grown_set (grown_drewN hG _) _ _) _ _⟩
                    case rest =>
                      clear hS hG
                      obtain ⟨hS, hG⟩ := hcut
                      have hz3 : (Sort.swp d3 i2 j2).size = d3.size := by simp [Sort.swp]
                      go_wp2
                      go_roundg (gk - 1)
                      case measure => omega
                      case rel => exact ⟨i2 + 1, m2, _, by go_num, rfl, by omega, by omega, by omega, by omega, by omega, by omega, hS, hG, W9⟩
end Go.Proofs.Ytidlfjaogjpokaa

/- Walk of FnExecutePost. -/
import Derived.Test.YtgjllminidlolaaGreatDoorMQPDrawC
import Derived.Test.YtgjllminidlolaaGreatDoorMAN
import Derived.Test.YtgjllminidlolaaGreatDoorMQEPostP
import Derived.Deep.QuietTactic
import Derived.BigQuiet
import Derived.Deep.RegionHeld3
set_option linter.unusedVariables false
namespace Go.Proofs.YtgjllminidlolaaGreatDoor
open Go.RowKit Go.MapKept

theorem app_le {x y : List UInt8} {m k : Nat} (hx : x.length ≤ m) (hy : y.length ≤ k) : (x ++ y).length ≤ m + k := by
  rw [List.length_append]
  omega
/-- The text of the first stops. -/
def coachText (xs : List T3) (j : Nat) : List UInt8 := coachW ++ (xs.take j).flatMap stopW
theorem coachText_next {xs : List T3} {j : Nat} {p : T3} (h : xs[j]? = some p) : coachText xs (j + 1) = coachText xs j ++ [32] ++ Lib.decDigits p.a.toNat ++ [32] ++ Lib.decDigits p.b.toNat ++ [32] ++ Lib.decDigits p.c.toNat := by
  unfold coachText
  rw [take_next h, List.flatMap_append]
  simp [stopW]
theorem coachText_all (xs : List T3) : coachText xs xs.length = lineC xs := by
  unfold coachText lineC
  rw [List.take_length]
theorem stopW_len {p : T3} (h : p.a < 10 ∧ p.b < 100000 ∧ p.c < 100000) : (stopW p).length ≤ 14 := by
  have h1 := decDigits_len 1 p.a.toNat (by omega) (by omega)
  have h2 := decDigits_len 5 p.b.toNat (by omega) (by omega)
  have h3 := decDigits_len 5 p.c.toNat (by omega) (by omega)
  unfold stopW
  simp only [List.length_append, List.length_cons]
  omega
theorem flat_le {xs : List T3} (h : ∀ p ∈ xs, (stopW p).length ≤ 14) : (xs.flatMap stopW).length ≤ 14 * xs.length := by
  induction xs with
  | nil => simp
  | cons p xs ih =>
    have h1 := h p (List.mem_cons_self ..)
    have h2 := ih (fun q hq => h q (List.mem_cons_of_mem _ hq))
    rw [List.flatMap_cons, List.length_append, List.length_cons]
    omega
theorem coachText_len {xs : List T3} (h : StopsOk 6 xs) (j : Nat) : (coachText xs j).length ≤ 120 := by
  have h1 := flat_le (xs := xs.take j) (fun p hp => stopW_len (by have := h.2.2.2.2.1 p (List.mem_of_mem_take hp); omega))
  have h2 := h.2.2.2.1
  rw [List.length_take] at h1
  unfold coachText
  rw [List.length_append, show coachW.length = 5 from rfl]
  omega
set_option maxRecDepth 20000 in
set_option maxHeartbeats 6400000 in
theorem coachLine_any (A : Option Addr) (len c : Nat) (xs : List T3) (W0 : World) (h : SlE 3 enc3 W0 A len xs) (hok : StopsOk 6 xs) :
    Calls Tryz.prog 30 #[.slice A len c] W0 (Only (.string (bs (lineC xs ++ [10]))) W0) := by
  have S4 := Lib.hid h
  have HOK := Lib.hid hok
  have HL := Lib.hid h.len
  have hl8 : len ≤ 8 := by rw [← h.len]; exact hok.2.2.2.1
  have HTL := Lib.hid (fun j => coachText_len hok j)
  have HWT := Lib.hid (coachText_all xs)
  rw [HL.out] at HWT
  clear h hok
  have HS0 : Hid ((⟨#[99, 111, 97, 99, 104]⟩ : ByteArray) = bs (coachText xs 0)) := Lib.hid (by kernel_rfl)
  go_enter Tryz.func30, Tryz.ntmps30
  go_wp2_with fail
  go_loopw [3, 4] (fun s i wr => ∃ j : Nat, j ≤ len ∧ i = .int .i64 j ∧ s = .string (bs (coachText xs j)) ∧ Below W0.heap.size W0 wr) (fun _ i _ => len - (intOf i).toNat)
  case atStart => exact ⟨0, by omega, rfl, by rw [← HS0.out], Below.refl _ _⟩
  case round =>
    obtain ⟨j, hj, rfl, rfl, hbr⟩ := hrel
    have HR := Lib.hid hbr
    clear hbr
    by_cases hjl : j < len
    · obtain ⟨bb, off, x, y, z, rfl, hbl, hx, hd, g0, g1, g2⟩ := at3 S4.out HR.out hjl
      have hob := HOK.out.2.2.2.2.1 _ (mem_at hx)
      dsimp only at hob
      have HTN := Lib.hid (coachText_next hx)
      dsimp only at HTN
      obtain ⟨x, rfl⟩ : ∃ i : Nat, x = i := ⟨x.toNat, by omega⟩
      obtain ⟨y, rfl⟩ : ∃ i : Nat, y = i := ⟨y.toNat, by omega⟩
      obtain ⟨z, rfl⟩ : ∃ i : Nat, z = i := ⟨z.toNat, by omega⟩
      have hw1 := HTL.out j
      have hw2 := decDigits_len 1 x (by omega) (by omega)
      have hw3 := decDigits_len 5 y (by omega) (by omega)
      have hw4 := decDigits_len 5 z (by omega) (by omega)
      have HD1 := Lib.hid (fun W => digits_any x W (by omega))
      have HD2 := Lib.hid (fun W => digits_any y W (by omega))
      have HD3 := Lib.hid (fun W => digits_any z W (by omega))
      have HC0 := Lib.hid (And.intro g0 (And.intro g1 g2))
      clear hd hx hob
      have ad1 : ∀ W, (Op.stringOp .add (bs (coachText xs j)) ⟨#[32]⟩).run Tryz.prog W = .ok (.string (bs ((coachText xs j) ++ [32]))) W := add_lists ((coachText xs j)) [32] (Nat.le_trans hw1 (by decide)) (Nat.le_trans (show ([32] : List UInt8).length ≤ 1 from Nat.le_refl _) (by decide))
      have lad1 := app_le hw1 (show ([32] : List UInt8).length ≤ 1 from Nat.le_refl _)
      have ad2 : ∀ W, (Op.stringOp .add (bs ((coachText xs j) ++ [32])) (bs (Lib.decDigits x))).run Tryz.prog W = .ok (.string (bs ((coachText xs j) ++ [32] ++ (Lib.decDigits x)))) W := add_lists ((coachText xs j) ++ [32]) (Lib.decDigits x) (Nat.le_trans lad1 (by decide)) (Nat.le_trans hw2 (by decide))
      have lad2 := app_le lad1 hw2
      have ad3 : ∀ W, (Op.stringOp .add (bs ((coachText xs j) ++ [32] ++ (Lib.decDigits x))) ⟨#[32]⟩).run Tryz.prog W = .ok (.string (bs ((coachText xs j) ++ [32] ++ (Lib.decDigits x) ++ [32]))) W := add_lists ((coachText xs j) ++ [32] ++ (Lib.decDigits x)) [32] (Nat.le_trans lad2 (by decide)) (Nat.le_trans (show ([32] : List UInt8).length ≤ 1 from Nat.le_refl _) (by decide))
      have lad3 := app_le lad2 (show ([32] : List UInt8).length ≤ 1 from Nat.le_refl _)
      have ad4 : ∀ W, (Op.stringOp .add (bs ((coachText xs j) ++ [32] ++ (Lib.decDigits x) ++ [32])) (bs (Lib.decDigits y))).run Tryz.prog W = .ok (.string (bs ((coachText xs j) ++ [32] ++ (Lib.decDigits x) ++ [32] ++ (Lib.decDigits y)))) W := add_lists ((coachText xs j) ++ [32] ++ (Lib.decDigits x) ++ [32]) (Lib.decDigits y) (Nat.le_trans lad3 (by decide)) (Nat.le_trans hw3 (by decide))
      have lad4 := app_le lad3 hw3
      have ad5 : ∀ W, (Op.stringOp .add (bs ((coachText xs j) ++ [32] ++ (Lib.decDigits x) ++ [32] ++ (Lib.decDigits y))) ⟨#[32]⟩).run Tryz.prog W = .ok (.string (bs ((coachText xs j) ++ [32] ++ (Lib.decDigits x) ++ [32] ++ (Lib.decDigits y) ++ [32]))) W := add_lists ((coachText xs j) ++ [32] ++ (Lib.decDigits x) ++ [32] ++ (Lib.decDigits y)) [32] (Nat.le_trans lad4 (by decide)) (Nat.le_trans (show ([32] : List UInt8).length ≤ 1 from Nat.le_refl _) (by decide))
      have lad5 := app_le lad4 (show ([32] : List UInt8).length ≤ 1 from Nat.le_refl _)
      have ad6 : ∀ W, (Op.stringOp .add (bs ((coachText xs j) ++ [32] ++ (Lib.decDigits x) ++ [32] ++ (Lib.decDigits y) ++ [32])) (bs (Lib.decDigits z))).run Tryz.prog W = .ok (.string (bs (coachText xs (j + 1)))) W := fun W => by
        rw [HTN.out]; dsimp only [Int.toNat_natCast]
        exact add_lists ((coachText xs j) ++ [32] ++ (Lib.decDigits x) ++ [32] ++ (Lib.decDigits y) ++ [32]) (Lib.decDigits z) (Nat.le_trans lad5 (by decide)) (Nat.le_trans hw4 (by decide)) W
      clear lad1 lad2 lad3 lad4 lad5
      clear hw1 hw2 hw3 hw4 HTN
      generalize hTN : bs (coachText xs (j + 1)) = TN at *
      have HTNX := Lib.hid hTN
      clear hTN
      generalize bs ((coachText xs j) ++ [32] ++ (Lib.decDigits x) ++ [32] ++ (Lib.decDigits y) ++ [32]) = T4 at *
      generalize bs ((coachText xs j) ++ [32] ++ (Lib.decDigits x) ++ [32] ++ (Lib.decDigits y)) = T3 at *
      generalize bs ((coachText xs j) ++ [32] ++ (Lib.decDigits x) ++ [32]) = T2 at *
      generalize bs ((coachText xs j) ++ [32] ++ (Lib.decDigits x)) = T1 at *
      generalize bs ((coachText xs j) ++ [32]) = T0 at *
      generalize bs (coachText xs j) = TS at *
      generalize bs (Lib.decDigits x) = D1 at *
      generalize bs (Lib.decDigits y) = D2 at *
      generalize bs (Lib.decDigits z) = D3 at *
      go_wp2_with fail
      go_region_held3 (fun w' => w'.cell? ⟨bb, off + j * 3, none⟩ = some (.int .i64 x) ∧ w'.cell? ⟨bb, off + j * 3 + 1, none⟩ = some (.int .i64 y) ∧ w'.cell? ⟨bb, off + j * 3 + 2, none⟩ = some (.int .i64 z))
        (first | exact HC0.out | exact CZ2.out | exact CZ3.out | exact CZ4.out | fail)
        (first
          | (go_at_call 19; have HQ := HB3; (with_reducible_and_instances refine (HD3.out _).mono ?_); rintro e w4 ⟨rfl, hb4⟩; have HB4 := Lib.hid (below_trans HB3.out hb4); have CZ4 := Lib.hid (cells3_below hb4 CZ3.out); clear hb4)
          | (go_at_call 19; have HQ := HB2; (with_reducible_and_instances refine (HD2.out _).mono ?_); rintro e w3 ⟨rfl, hb3⟩; have HB3 := Lib.hid (below_trans HB2.out hb3); have CZ3 := Lib.hid (cells3_below hb3 CZ2.out); clear hb3)
          | (go_at_call 19; (with_reducible_and_instances refine (HD1.out _).mono ?_); rintro e w2 ⟨rfl, hb2⟩; have HB2 := Lib.hid (below_trans (below_drew HR.out) hb2); have CZ2 := Lib.hid (cells3_below hb2 HC0.out); clear hb2)
          | fail)
      go_wp2_with fail
      go_roundw
      case rel => exact ⟨j + 1, by omega, by go_num, by rw [HTNX.out], HB4.out⟩
      case measure => simp [intOf]; omega
    · obtain rfl : len = j := by omega
      have hw1 := HTL.out len
      have bd1 : ∀ W, (Op.stringOp .add (bs (coachText xs len)) ⟨#[10]⟩).run Tryz.prog W = .ok (.string (bs (lineC xs ++ [10]))) W := fun W => by
        rw [← HWT.out]
        exact add_lists (coachText xs len) [10] (Nat.le_trans hw1 (by decide)) (by decide) W
      clear hw1
      generalize bs (lineC xs ++ [10]) = FN at *
      generalize bs (coachText xs len) = TS at *
      go_wp2_with fail
      go_ret
      exact ⟨rfl, HR.out⟩
theorem textOf_one (l : List UInt8) : textOf [l] = l ++ [10] := by simp [textOf]
/-- The text of the first coaches. -/
def netText (net : List (List T3)) (j : Nat) : List UInt8 := textOf ((net.take j).map lineC)
theorem netText_next {net : List (List T3)} {j : Nat} {xs : List T3} (h : net[j]? = some xs) : netText net (j + 1) = netText net j ++ (lineC xs ++ [10]) := by
  unfold netText
  rw [take_next h, List.map_append, textOf_append]
  simp [textOf]
theorem lineC_len {xs : List T3} (h : StopsOk 6 xs) : (lineC xs).length ≤ 120 := by
  rw [← coachText_all]
  exact coachText_len h _
theorem netText_len {net : List (List T3)} (h : NetOk 6 net) (j : Nat) : (netText net j).length ≤ 726 := by
  have h1 := textOf_len 120 ((net.take j).map lineC) (fun l hl => by
    obtain ⟨xs, hx, rfl⟩ := List.mem_map.1 hl
    exact lineC_len (h.2.2.2 xs (List.mem_of_mem_take hx)))
  have h2 := h.2.2.1
  rw [List.length_map, List.length_take] at h1
  unfold netText
  omega
theorem netText_all (net : List (List T3)) (a b t c : Int) : netText net net.length ++ [112, 111, 115, 116, 32] ++ Lib.decDigits a.toNat ++ [32] ++ Lib.decDigits b.toNat ++ [32] ++ Lib.decDigits t.toNat ++ [32] ++ Lib.decDigits c.toNat ++ [10] = textOf (postLines net a b t c) := by
  unfold netText postLines
  rw [List.take_length, textOf_append]
  simp [textOf, lineP, postW]
set_option maxRecDepth 20000 in
set_option maxHeartbeats 12800000 in
theorem lawFnExecutePost_walk (A0 : Option Addr) (len0 cap0 : Nat) (xs0 : List Int) (w : World) (hm : Env w) (h0 : SlE 1 encU w A0 len0 xs0) (hb0 : Bytes xs0) (hc0 : len0 ≤ cap0) :
    Calls Tryz.prog 8 #[.slice A0 len0 cap0] w (Only (.bool true) w) := by
  have H0 := Lib.hid h0
  have HB0 := Lib.hid hb0
  have HM := Lib.hid hm
  clear h0 hb0 hm
  by_cases hbig : (len0 : Int) ≤ 1048576
  rotate_left
  · go_enter Tryz.func8, Tryz.ntmps8
    go_wp2_with fail
    go_ret
    exact ⟨rfl, Below.refl _ _⟩
  go_enter Tryz.func8, Tryz.ntmps8
  go_wp2_with fail
  refine (drawPostArrive_any A0 len0 cap0 xs0 w H0.out HB0.out (by omega) hc0).mono ?_
  rintro e w1 ⟨n, v, net, a, b, t, ch, rfl, n1, n2, hl, h6, hown, hb⟩
  clear H0 HB0
  obtain ⟨A, m, c, rfl, hlm, hns⟩ : ∃ A m c, v = .slice A m c ∧ net.length = m ∧ NetS w1 A m net := by
    obtain ⟨A, c, h1, h2, -⟩ := hown.netS
    exact ⟨A, _, c, h1, rfl, h2⟩
  have hm6 : m ≤ 6 := by rw [← hlm]; exact hl
  have HLM := Lib.hid hlm
  have S1 := Lib.hid hns
  have B1 := Lib.hid hb
  have HNL := Lib.hid (show NetLen net from fun xs hx => Nat.le_trans (h6 xs hx) (by omega))
  clear hown hb hlm hns h6 hl
  have HPI := Lib.hid (fun W (hW : Below w1.heap.size w1 W) => implPostArrive_any A n m c net a b t ch W (S1.out.below hW) (by omega) HNL.out)
  have HPS := Lib.hid (fun W (hW : Below w1.heap.size w1 W) => specPostArrive_any A n m c net a b t ch W (S1.out.below hW) (by omega) HNL.out (by omega) (by omega))
  by_cases hf : 0 ≤ postV n net a b t ch
  rotate_left
  · generalize postV n net a b t ch = v at *
    have hvn : v < 0 := by omega
    go_wp2_with fail
    refine (HPI.out _ (Below.refl _ _)).mono ?_
    rintro e w2 ⟨rfl, hb2⟩
    have B2 := Lib.hid hb2
    clear hb2
    go_wp2_with fail
    refine (HPS.out _ B2.out).mono ?_
    rintro e w3 ⟨rfl, hb3⟩
    have B3 := Lib.hid (below_trans B1.out (below_trans B2.out hb3))
    clear hb3
    go_wp2_with fail
    go_ret
    exact ⟨rfl, B3.out⟩
  have hpp := postV_pos hf
  have hq6 := net_six hpp.1.1 n2
  have HQ6 := Lib.hid hq6
  have ha6 := hpp.1.2.1
  have ht6 := hpp.1.2.2.1
  have hc6 := hpp.1.2.2.2
  have hb6 := hpp.2.1
  have hbd := postV_bd n net a b t ch
  have HEX := Lib.hid (fun hs W hE => post_execute (net := net) (a := a) (b := b) (t := t) (c := ch) hq6 (by rw [postV_six hf n2]; exact hf) hs W hE)
  rw [postV_six hf n2, HLM.out] at HEX
  have HWT := Lib.hid (netText_all net a b t ch)
  rw [HLM.out] at HWT
  have HTL := Lib.hid (fun j => netText_len hq6 j)
  clear hpp hq6
  generalize postV n net a b t ch = v at *
  have i6 : ¬ (6 : Int) < n := by omega
  have hv0 : ¬ v < 0 := by omega
  obtain ⟨a, rfl⟩ : ∃ i : Nat, a = i := ⟨a.toNat, by omega⟩
  obtain ⟨b, rfl⟩ : ∃ i : Nat, b = i := ⟨b.toNat, by omega⟩
  obtain ⟨t, rfl⟩ : ∃ i : Nat, t = i := ⟨t.toNat, by omega⟩
  obtain ⟨ch, rfl⟩ : ∃ i : Nat, ch = i := ⟨ch.toNat, by omega⟩
  go_wp2_with fail
  refine (HPI.out _ (Below.refl _ _)).mono ?_
  rintro e w2 ⟨rfl, hb2⟩
  have B2 := Lib.hid hb2
  clear hb2
  go_wp2_with fail
  refine (HPS.out _ B2.out).mono ?_
  rintro e w3 ⟨rfl, hb3⟩
  have B3 := Lib.hid (below_trans B2.out hb3)
  have S3 := Lib.hid (S1.out.below B3.out)
  clear hb3 HPI HPS
  obtain ⟨v, rfl⟩ : ∃ i : Nat, v = i := ⟨v.toNat, by omega⟩
  have HDA := Lib.hid (fun W => digits_any a W (by omega))
  have HDB := Lib.hid (fun W => digits_any b W (by omega))
  have HDT := Lib.hid (fun W => digits_any t W (by omega))
  have HDC := Lib.hid (fun W => digits_any ch W (by omega))
  have HDV := Lib.hid (fun W => digits_any v W (by omega))
  obtain ⟨W0, rfl⟩ : ∃ W0, W0 = w3 := ⟨_, rfl⟩
  have HS0 : Hid ((⟨#[]⟩ : ByteArray) = bs (netText net 0)) := Lib.hid rfl
  go_wp2_with fail
  go_loopw [11, 12] (fun s i wr => ∃ j : Nat, j ≤ m ∧ i = .int .i64 j ∧ s = .string (bs (netText net j)) ∧ Below W0.heap.size W0 wr) (fun _ i _ => m - (intOf i).toNat)
  case atStart => exact ⟨0, by omega, rfl, by rw [← HS0.out], Below.refl _ _⟩
  case round =>
    obtain ⟨j, hj, rfl, rfl, hbr⟩ := hrel
    have HR := Lib.hid hbr
    clear hbr
    by_cases hjl : j < m
    · obtain ⟨bb, off, A', n', c', zs, rfl, hbl, hcell, hz, hsl, hnc⟩ := S3.out.at_ HR.out hjl
      have hjz : (j : Int) < (m : Int) := by omega
      have hok := HQ6.out.2.2.2 zs (List.mem_of_getElem? hz)
      have HCL := Lib.hid (coachLine_any A' n' c' zs wr (hsl.below HR.out) hok)
      have HTN := Lib.hid (netText_next hz)
      have hw1 := HTL.out j
      have hw2 : (lineC zs ++ [10]).length ≤ 121 := app_le (lineC_len hok) (Nat.le_refl _)
      have ad1 : ∀ W, (Op.stringOp .add (bs (netText net j)) (bs (lineC zs ++ [10]))).run Tryz.prog W = .ok (.string (bs (netText net (j + 1)))) W := fun W => by
        rw [HTN.out]
        exact add_lists (netText net j) (lineC zs ++ [10]) (Nat.le_trans hw1 (by decide)) (Nat.le_trans hw2 (by decide)) W
      clear hw1 hw2 hok hz hsl HTN
      generalize hTN : bs (netText net (j + 1)) = TN at *
      have HTNX := Lib.hid hTN
      clear hTN
      generalize bs (netText net j) = TS at *
      generalize bs (lineC zs ++ [10]) = TL at *
      go_wp2_with fail
      refine HCL.out.mono ?_
      rintro e w5 ⟨rfl, hb5⟩
      have B5 := Lib.hid (below_trans HR.out hb5)
      clear hb5
      go_wp2_with fail
      go_roundw
      case rel => exact ⟨j + 1, by omega, by go_num, by rw [HTNX.out], B5.out⟩
      case measure => simp [intOf]; omega
    · obtain rfl : m = j := by omega
      have hw1 := HTL.out m
      have hw2 := decDigits_len 1 a (by omega) (by omega)
      have hw3 := decDigits_len 1 b (by omega) (by omega)
      have hw4 := decDigits_len 5 t (by omega) (by omega)
      have hw5 := decDigits_len 3 ch (by omega) (by omega)
      have hw6 : (textOf (List.replicate m okL)).length ≤ 48 := by rw [okText_len]; omega
      have hw7 : (decI (v : Int)).length ≤ 5 := decDigits_len 5 v (by omega) (by omega)
      have hw8 : (endL 0 m 0 ++ [10]).length ≤ 41 := app_le (endL_len 0 m 0 (by omega) (by omega) (by omega)) (Nat.le_refl _)
      rw [Int.toNat_natCast, Int.toNat_natCast, Int.toNat_natCast, Int.toNat_natCast] at HWT
      have cd1 : ∀ W, (Op.stringOp .add (bs (netText net m)) ⟨#[112, 111, 115, 116, 32]⟩).run Tryz.prog W = .ok (.string (bs ((netText net m) ++ [112, 111, 115, 116, 32]))) W := add_lists ((netText net m)) [112, 111, 115, 116, 32] (Nat.le_trans hw1 (by decide)) (Nat.le_trans (show ([112, 111, 115, 116, 32] : List UInt8).length ≤ 5 from Nat.le_refl _) (by decide))
      have lcd1 := app_le hw1 (show ([112, 111, 115, 116, 32] : List UInt8).length ≤ 5 from Nat.le_refl _)
      have cd2 : ∀ W, (Op.stringOp .add (bs ((netText net m) ++ [112, 111, 115, 116, 32])) (bs (Lib.decDigits a))).run Tryz.prog W = .ok (.string (bs ((netText net m) ++ [112, 111, 115, 116, 32] ++ (Lib.decDigits a)))) W := add_lists ((netText net m) ++ [112, 111, 115, 116, 32]) (Lib.decDigits a) (Nat.le_trans lcd1 (by decide)) (Nat.le_trans hw2 (by decide))
      have lcd2 := app_le lcd1 hw2
      have cd3 : ∀ W, (Op.stringOp .add (bs ((netText net m) ++ [112, 111, 115, 116, 32] ++ (Lib.decDigits a))) ⟨#[32]⟩).run Tryz.prog W = .ok (.string (bs ((netText net m) ++ [112, 111, 115, 116, 32] ++ (Lib.decDigits a) ++ [32]))) W := add_lists ((netText net m) ++ [112, 111, 115, 116, 32] ++ (Lib.decDigits a)) [32] (Nat.le_trans lcd2 (by decide)) (Nat.le_trans (show ([32] : List UInt8).length ≤ 1 from Nat.le_refl _) (by decide))
      have lcd3 := app_le lcd2 (show ([32] : List UInt8).length ≤ 1 from Nat.le_refl _)
      have cd4 : ∀ W, (Op.stringOp .add (bs ((netText net m) ++ [112, 111, 115, 116, 32] ++ (Lib.decDigits a) ++ [32])) (bs (Lib.decDigits b))).run Tryz.prog W = .ok (.string (bs ((netText net m) ++ [112, 111, 115, 116, 32] ++ (Lib.decDigits a) ++ [32] ++ (Lib.decDigits b)))) W := add_lists ((netText net m) ++ [112, 111, 115, 116, 32] ++ (Lib.decDigits a) ++ [32]) (Lib.decDigits b) (Nat.le_trans lcd3 (by decide)) (Nat.le_trans hw3 (by decide))
      have lcd4 := app_le lcd3 hw3
      have cd5 : ∀ W, (Op.stringOp .add (bs ((netText net m) ++ [112, 111, 115, 116, 32] ++ (Lib.decDigits a) ++ [32] ++ (Lib.decDigits b))) ⟨#[32]⟩).run Tryz.prog W = .ok (.string (bs ((netText net m) ++ [112, 111, 115, 116, 32] ++ (Lib.decDigits a) ++ [32] ++ (Lib.decDigits b) ++ [32]))) W := add_lists ((netText net m) ++ [112, 111, 115, 116, 32] ++ (Lib.decDigits a) ++ [32] ++ (Lib.decDigits b)) [32] (Nat.le_trans lcd4 (by decide)) (Nat.le_trans (show ([32] : List UInt8).length ≤ 1 from Nat.le_refl _) (by decide))
      have lcd5 := app_le lcd4 (show ([32] : List UInt8).length ≤ 1 from Nat.le_refl _)
      have cd6 : ∀ W, (Op.stringOp .add (bs ((netText net m) ++ [112, 111, 115, 116, 32] ++ (Lib.decDigits a) ++ [32] ++ (Lib.decDigits b) ++ [32])) (bs (Lib.decDigits t))).run Tryz.prog W = .ok (.string (bs ((netText net m) ++ [112, 111, 115, 116, 32] ++ (Lib.decDigits a) ++ [32] ++ (Lib.decDigits b) ++ [32] ++ (Lib.decDigits t)))) W := add_lists ((netText net m) ++ [112, 111, 115, 116, 32] ++ (Lib.decDigits a) ++ [32] ++ (Lib.decDigits b) ++ [32]) (Lib.decDigits t) (Nat.le_trans lcd5 (by decide)) (Nat.le_trans hw4 (by decide))
      have lcd6 := app_le lcd5 hw4
      have cd7 : ∀ W, (Op.stringOp .add (bs ((netText net m) ++ [112, 111, 115, 116, 32] ++ (Lib.decDigits a) ++ [32] ++ (Lib.decDigits b) ++ [32] ++ (Lib.decDigits t))) ⟨#[32]⟩).run Tryz.prog W = .ok (.string (bs ((netText net m) ++ [112, 111, 115, 116, 32] ++ (Lib.decDigits a) ++ [32] ++ (Lib.decDigits b) ++ [32] ++ (Lib.decDigits t) ++ [32]))) W := add_lists ((netText net m) ++ [112, 111, 115, 116, 32] ++ (Lib.decDigits a) ++ [32] ++ (Lib.decDigits b) ++ [32] ++ (Lib.decDigits t)) [32] (Nat.le_trans lcd6 (by decide)) (Nat.le_trans (show ([32] : List UInt8).length ≤ 1 from Nat.le_refl _) (by decide))
      have lcd7 := app_le lcd6 (show ([32] : List UInt8).length ≤ 1 from Nat.le_refl _)
      have cd8 : ∀ W, (Op.stringOp .add (bs ((netText net m) ++ [112, 111, 115, 116, 32] ++ (Lib.decDigits a) ++ [32] ++ (Lib.decDigits b) ++ [32] ++ (Lib.decDigits t) ++ [32])) (bs (Lib.decDigits ch))).run Tryz.prog W = .ok (.string (bs ((netText net m) ++ [112, 111, 115, 116, 32] ++ (Lib.decDigits a) ++ [32] ++ (Lib.decDigits b) ++ [32] ++ (Lib.decDigits t) ++ [32] ++ (Lib.decDigits ch)))) W := add_lists ((netText net m) ++ [112, 111, 115, 116, 32] ++ (Lib.decDigits a) ++ [32] ++ (Lib.decDigits b) ++ [32] ++ (Lib.decDigits t) ++ [32]) (Lib.decDigits ch) (Nat.le_trans lcd7 (by decide)) (Nat.le_trans hw5 (by decide))
      have lcd8 := app_le lcd7 hw5
      have cd9 : ∀ W, (Op.stringOp .add (bs ((netText net m) ++ [112, 111, 115, 116, 32] ++ (Lib.decDigits a) ++ [32] ++ (Lib.decDigits b) ++ [32] ++ (Lib.decDigits t) ++ [32] ++ (Lib.decDigits ch))) ⟨#[10]⟩).run Tryz.prog W = .ok (.string (bs (textOf (postLines net a b t ch)))) W := fun W => by
        rw [← HWT.out]
        exact add_lists ((netText net m) ++ [112, 111, 115, 116, 32] ++ (Lib.decDigits a) ++ [32] ++ (Lib.decDigits b) ++ [32] ++ (Lib.decDigits t) ++ [32] ++ (Lib.decDigits ch)) [10] (Nat.le_trans lcd8 (by decide)) (Nat.le_trans (show ([10] : List UInt8).length ≤ 1 from Nat.le_refl _) (by decide)) W
      clear lcd1 lcd2 lcd3 lcd4 lcd5 lcd6 lcd7 lcd8
      have ed1 : ∀ W, (Op.stringOp .add (bs (textOf (List.replicate m okL))) (bs (decI v))).run Tryz.prog W = .ok (.string (bs ((textOf (List.replicate m okL)) ++ (decI v)))) W := add_lists ((textOf (List.replicate m okL))) (decI v) (Nat.le_trans hw6 (by decide)) (Nat.le_trans hw7 (by decide))
      have led1 := app_le hw6 hw7
      have ed2 : ∀ W, (Op.stringOp .add (bs ((textOf (List.replicate m okL)) ++ (decI v))) ⟨#[10]⟩).run Tryz.prog W = .ok (.string (bs ((textOf (List.replicate m okL)) ++ (decI v) ++ [10]))) W := add_lists ((textOf (List.replicate m okL)) ++ (decI v)) [10] (Nat.le_trans led1 (by decide)) (Nat.le_trans (show ([10] : List UInt8).length ≤ 1 from Nat.le_refl _) (by decide))
      have led2 := app_le led1 (show ([10] : List UInt8).length ≤ 1 from Nat.le_refl _)
      have ed3 : ∀ W, (Op.stringOp .add (bs ((textOf (List.replicate m okL)) ++ (decI v) ++ [10])) (bs (endL 0 m 0 ++ [10]))).run Tryz.prog W = .ok (.string (bs ((textOf (List.replicate m okL)) ++ (decI v) ++ [10] ++ (endL 0 m 0 ++ [10])))) W := add_lists ((textOf (List.replicate m okL)) ++ (decI v) ++ [10]) (endL 0 m 0 ++ [10]) (Nat.le_trans led2 (by decide)) (Nat.le_trans hw8 (by decide))
      have led3 := app_le led2 hw8
      clear led1 led2 led3
      have HE := Lib.hid (fun hs (W : World) (hW : Below w.heap.size w W) => HEX.out hs W (HM.out.later hW))
      have HKO := Lib.hid (fun W => okLines_any m W (by omega))
      have HKE : Hid (∀ W, Calls Tryz.prog 22 #[.int .i64 0, .int .i64 m, .int .i64 0] W (Only (.string (bs (endL 0 m 0 ++ [10]))) W)) := Lib.hid (fun W => endLine_any 0 m 0 W (by omega) (by omega) (by omega))
      have BR := Lib.hid (below_trans B1.out (below_trans B3.out HR.out))
      have HDV2 : Hid (∀ W, Calls Tryz.prog 19 #[.int .i64 v] W (Only (.string (bs (decI (v : Int)))) W)) := HDV
      obtain ⟨K, hK⟩ : ∃ K, (textOf (postLines net a b t ch)).length = K := ⟨_, rfl⟩
      have hVs : (bs (textOf (postLines net a b t ch))).size = K := by rw [bs_size]; exact hK
      rw [hK] at HE
      clear hw1 hw2 hw3 hw4 hw5 hw6 hw7 hw8 HDV HWT HEX hK
      generalize hFN : bs ((textOf (List.replicate m okL)) ++ (decI v) ++ [10] ++ (endL 0 m 0 ++ [10])) = FN at *
      clear hFN
      generalize bs ((textOf (List.replicate m okL)) ++ (decI v) ++ [10]) = X1 at *
      generalize bs ((textOf (List.replicate m okL)) ++ (decI v)) = X0 at *
      generalize bs (textOf (postLines net a b t ch)) = V9 at *
      generalize bs ((netText net m) ++ [112, 111, 115, 116, 32] ++ (Lib.decDigits a) ++ [32] ++ (Lib.decDigits b) ++ [32] ++ (Lib.decDigits t) ++ [32] ++ (Lib.decDigits ch)) = V7 at *
      generalize bs ((netText net m) ++ [112, 111, 115, 116, 32] ++ (Lib.decDigits a) ++ [32] ++ (Lib.decDigits b) ++ [32] ++ (Lib.decDigits t) ++ [32]) = V6 at *
      generalize bs ((netText net m) ++ [112, 111, 115, 116, 32] ++ (Lib.decDigits a) ++ [32] ++ (Lib.decDigits b) ++ [32] ++ (Lib.decDigits t)) = V5 at *
      generalize bs ((netText net m) ++ [112, 111, 115, 116, 32] ++ (Lib.decDigits a) ++ [32] ++ (Lib.decDigits b) ++ [32]) = V4 at *
      generalize bs ((netText net m) ++ [112, 111, 115, 116, 32] ++ (Lib.decDigits a) ++ [32] ++ (Lib.decDigits b)) = V3 at *
      generalize bs ((netText net m) ++ [112, 111, 115, 116, 32] ++ (Lib.decDigits a) ++ [32]) = V2 at *
      generalize bs ((netText net m) ++ [112, 111, 115, 116, 32] ++ (Lib.decDigits a)) = V1 at *
      generalize bs ((netText net m) ++ [112, 111, 115, 116, 32]) = V0 at *
      generalize bs (netText net m) = TS at *
      generalize bs (textOf (List.replicate m okL)) = TO at *
      generalize bs (endL 0 m 0 ++ [10]) = TE at *
      generalize bs (decI (v : Int)) = TV at *
      generalize bs (Lib.decDigits a) = DA at *
      generalize bs (Lib.decDigits b) = DB at *
      generalize bs (Lib.decDigits t) = DT at *
      generalize bs (Lib.decDigits ch) = DC at *
      have deq : (FN == FN) = true := (bytes_beq FN FN).2 rfl
      go_wp2_with fail
      refine (HDA.out _).mono ?_
      rintro e w5 ⟨rfl, hb⟩
      have B5 := Lib.hid (below_trans BR.out hb)
      clear hb
      go_wp2_with fail
      refine (HDB.out _).mono ?_
      rintro e w6 ⟨rfl, hb⟩
      have B6 := Lib.hid (below_trans B5.out hb)
      clear hb
      go_wp2_with fail
      refine (HDT.out _).mono ?_
      rintro e w7 ⟨rfl, hb⟩
      have B7 := Lib.hid (below_trans B6.out hb)
      clear hb
      go_wp2_with fail
      refine (HDC.out _).mono ?_
      rintro e w8 ⟨rfl, hb⟩
      have B8 := Lib.hid (below_trans B7.out hb)
      clear hb
      by_cases hK5 : (500 : Int) < (K : Int)
      · go_wp2_with fail
        go_ret
        exact ⟨rfl, B8.out⟩
      have hK6 : K ≤ 500 := by omega
      go_wp2_with fail
      refine (HE.out hK6 _ B8.out).mono ?_
      rintro e w9 ⟨rfl, hb⟩
      have B9 := Lib.hid (below_trans B8.out hb)
      clear hb
      go_wp2_with fail
      refine (HKO.out _).mono ?_
      rintro e w10 ⟨rfl, hb⟩
      have B10 := Lib.hid (below_trans B9.out hb)
      clear hb
      go_wp2_with fail
      refine (HDV2.out _).mono ?_
      rintro e w11 ⟨rfl, hb⟩
      have B11 := Lib.hid (below_trans B10.out hb)
      clear hb
      go_wp2_with fail
      refine (HKE.out _).mono ?_
      rintro e w12 ⟨rfl, hb⟩
      have B12 := Lib.hid (below_trans B11.out hb)
      clear hb
      go_wp2_with fail
      go_ret
      exact ⟨rfl, B12.out⟩
end Go.Proofs.YtgjllminidlolaaGreatDoor

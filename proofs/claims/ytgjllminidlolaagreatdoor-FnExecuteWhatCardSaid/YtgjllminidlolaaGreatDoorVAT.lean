/- Texts of mine in one: QWalkB QWalkC KWalkD KWalkE KWalkF KWalkG. -/
import Derived.Test.YtgjllminidlolaaGreatDoorVAS
import Derived.Test.YtgjllminidlolaaGreatDoorVAJ
import Derived.Test.YtgjllminidlolaaGreatDoorVAR
import Derived.Test.YtgjllminidlolaaGreatDoorVAH
import Derived.Laws.ResultCell
/- Contracts: what the reference writes: words, numbers, what is said, roads and letters. -/
set_option linter.unusedVariables false
namespace Go.Proofs.YtgjllminidlolaaGreatDoor
open Go.RowKit

theorem add_long (x y : List UInt8) (h : x.length + y.length ≤ 100000000) (W : World) : (Op.stringOp .add (bs x) (bs y)).run Tryz.prog W = .ok (.string (bs (x ++ y))) W := by
  have h := run_string_add_sum (P := Tryz.prog) (w := W) (bs x) (bs y) (by rw [bs_size, bs_size]; omega)
  rw [bs_append] at h
  exact h
theorem join_first {xs : List (List UInt8)} {x : List UInt8} (h : xs[0]? = some x) : Lib.join (xs.take 1) [32] = x := by
  rw [take_next h]
  simp [Lib.join]
theorem join_next {xs : List (List UInt8)} {j : Nat} {x : List UInt8} (h : xs[j]? = some x) (hj : 0 < j) : Lib.join (xs.take (j + 1)) [32] = Lib.join (xs.take j) [32] ++ [32] ++ x := by
  have hl := (List.getElem?_eq_some_iff.1 h).1
  rw [take_next h, join_snoc, if_neg (fun e => by
    have := congrArg List.length e
    rw [List.length_take, List.length_nil] at this
    omega), List.append_assoc]
set_option maxRecDepth 20000 in
set_option maxHeartbeats 1600000 in
theorem l10Words_any (A : Option Addr) (n c : Nat) (xs : List (List UInt8)) (w : World) (h : SlE 1 encS w A n (xs.map bs)) (hn : n ≤ 1000) (hx : ∀ x ∈ xs, x.length ≤ 1000) :
    Calls Tryz.prog 153 #[.slice A n c] w (Only (.string (bs (Lib.join xs [32]))) w) := by
  have H := Lib.hid h
  have HL := Lib.hid (show xs.length = n by rw [← h.len, List.length_map])
  have HX := Lib.hid hx
  have HB := Lib.hid (show ∀ j, (Lib.join (xs.take j) [32]).length ≤ 1001000 from fun j => by
    have h1 := join_le [32] 1000 (xs.take j) (fun l hl => hx l (List.mem_of_mem_take hl))
    have h2 : (xs.take j).length ≤ 1000 := by rw [List.length_take]; have := HL.out; omega
    have h3 : (xs.take j).length * ([32].length + 1000) ≤ 1000 * (1 + 1000) := Nat.mul_le_mul h2 (Nat.le_refl _)
    exact Nat.le_trans h1 (Nat.le_trans h3 (by decide)))
  have HS0 : Hid ((⟨#[]⟩ : ByteArray) = bs (Lib.join (xs.take 0) [32])) := Lib.hid rfl
  clear h hx
  go_enter Tryz.func153, Tryz.ntmps153
  go_wp2_with fail
  go_loopw [3, 4] (fun v i wr => ∃ j : Nat, j ≤ n ∧ i = .int .i64 j ∧ v = .string (bs (Lib.join (xs.take j) [32])) ∧ Below w.heap.size w wr) (fun _ i _ => n - (intOf i).toNat)
  case atStart => exact ⟨0, by omega, rfl, by rw [← HS0.out], Below.refl _ _⟩
  case round =>
    obtain ⟨j, hj, rfl, rfl, hbr⟩ := hrel
    have HR := Lib.hid hbr
    clear hbr HS0
    have hb := HB.out j
    by_cases hjn : j < n
    · obtain ⟨b, off, x, rfl, hbl, hx, -, g0⟩ := atS H.out HR.out hjn
      obtain ⟨l, hl⟩ : ∃ l, xs[j]? = some l := ⟨_, List.getElem?_eq_getElem (by rw [HL.out]; exact hjn)⟩
      obtain rfl : x = bs l := by
        rw [List.getElem?_map, hl] at hx
        exact (Option.some.inj hx).symm
      have hll := HX.out l (List.mem_of_getElem? hl)
      by_cases hj0 : j = 0
      · subst hj0
        have HN := Lib.hid (join_first hl)
        have ad : ∀ W, (Op.stringOp .add (bs (Lib.join (xs.take 0) [32])) (bs l)).run Tryz.prog W = .ok (.string (bs l)) W := fun W => add_long [] l (by simp; omega) W
        rw [Nat.add_zero] at g0
        clear hx hl hll hb
        generalize bs (Lib.join (xs.take 0) [32]) = T0 at *
        go_wp2_with fail
        go_roundw
        case rel => exact ⟨0 + 1, by omega, by go_num, by rw [HN.out], HR.out⟩
        case measure => simp [intOf]; omega
      · have hj1 : (0 : Int) < (j : Int) := by omega
        have HN := Lib.hid (join_next hl (by omega))
        have ad : ∀ W, (Op.stringOp .add (bs (Lib.join (xs.take j) [32])) ⟨#[32]⟩).run Tryz.prog W = .ok (.string (bs (Lib.join (xs.take j) [32] ++ [32]))) W := add_long (Lib.join (xs.take j) [32]) [32] (by simp; omega)
        have ad2 : ∀ W, (Op.stringOp .add (bs (Lib.join (xs.take j) [32] ++ [32])) (bs l)).run Tryz.prog W = .ok (.string (bs (Lib.join (xs.take j) [32] ++ [32] ++ l))) W := add_long (Lib.join (xs.take j) [32] ++ [32]) l (by rw [List.length_append, List.length_singleton]; omega)
        clear hx hl hll hb
        generalize hT2 : bs (Lib.join (xs.take j) [32] ++ [32] ++ l) = T2 at *
        have HT2 := Lib.hid hT2
        clear hT2
        generalize bs (Lib.join (xs.take j) [32] ++ [32]) = T1 at *
        generalize bs (Lib.join (xs.take j) [32]) = T0 at *
        go_wp2_with fail
        go_roundw
        case rel => exact ⟨j + 1, by omega, by go_num, by rw [HN.out, HT2.out], HR.out⟩
        case measure => simp [intOf]; omega
    · have HE := Lib.hid (show Lib.join (xs.take j) [32] = Lib.join xs [32] by rw [List.take_of_length_le (by rw [HL.out]; omega)])
      generalize Lib.join (xs.take j) [32] = T0 at *
      go_wp2_with fail
      go_ret
      exact ⟨by rw [HE.out]; rfl, HR.out⟩
/-- What is said: a text, or that there is none. -/
def saidL (s : List UInt8) (ok : Bool) : List UInt8 := if ok = true then s ++ [10] else [110, 111, 10]
set_option maxRecDepth 20000 in
theorem l10Said_any (s : List UInt8) (ok : Bool) (w : World) (hs : s.length ≤ 90000000) :
    Calls Tryz.prog 150 #[.string (bs s), .bool ok] w (Only (.string (bs (saidL s ok))) w) := by
  cases ok with
  | true =>
    have ad : ∀ W, (Op.stringOp .add (bs s) ⟨#[10]⟩).run Tryz.prog W = .ok (.string (bs (s ++ [10]))) W := add_long s [10] (by simp; omega)
    have HE : Hid (bs (saidL s true) = bs (s ++ [10])) := Lib.hid rfl
    rw [HE.out]
    clear HE
    generalize bs (s ++ [10]) = T1 at *
    generalize bs s = T0 at *
    go_enter Tryz.func150, Tryz.ntmps150
    go_wp2_with fail
    go_ret
    exact ⟨rfl, Below.refl _ _⟩
  | false =>
    go_enter Tryz.func150, Tryz.ntmps150
    go_wp2_with fail
    go_ret
    exact ⟨rfl, Below.refl _ _⟩
set_option maxRecDepth 20000 in
set_option maxHeartbeats 1600000 in
theorem l10List_any (A : Option Addr) (n c : Nat) (xs : List Int) (ok : Bool) (w : World) (h : SlE 1 encI w A n xs) (hn : n ≤ 1000) (hx : ∀ x ∈ xs, 0 ≤ x ∧ x < 100) :
    Calls Tryz.prog 115 #[.slice A n c, .bool ok] w (Only (.string (bs (saidL (spacedL xs) ok))) w) := by
  have H := Lib.hid h
  have HL := Lib.hid h.len
  have HX := Lib.hid hx
  have HSP := Lib.hid (show (spacedL xs).length ≤ 3000 by have := spaced_le hx; have := HL.out; omega)
  have OE := Lib.hid (own_new (enc := encS) (k := 1) w 9 w.heap.size (Nat.le_refl _) encS_len [] #[] rfl (by simp) rfl)
  clear h hx
  go_enter Tryz.func115, Tryz.ntmps115
  go_wp2_with fail
  go_loopw [5, 6] (fun v i wr => ∃ j : Nat, j ≤ n ∧ i = .int .i64 j ∧ OwnE 1 encS 9 w.heap.size wr v (decs (xs.take j)) ∧ Below w.heap.size w wr) (fun _ i _ => n - (intOf i).toNat)
  case atStart => exact ⟨0, by omega, rfl, OE.out, below_alloc (Below.refl _ _) _⟩
  case round =>
    obtain ⟨j, hj, rfl, hown, hbr⟩ := hrel
    have HO := Lib.hid hown
    have HR := Lib.hid hbr
    have hsz := hbr.size
    clear hown hbr OE
    by_cases hjn : j < n
    · obtain ⟨b, off, x, rfl, hbl, hx, hd, g0⟩ := at1 H.out HR.out hjn
      have hxb := HX.out x (List.mem_of_getElem? hx)
      have HN := Lib.hid (decs_take hx)
      have HDL := Lib.hid (show (decs (xs.take j)).length ≤ 1000 by rw [decs, List.length_map, List.length_take, HL.out]; omega)
      obtain ⟨x, rfl⟩ : ∃ k : Nat, x = k := ⟨x.toNat, by omega⟩
      have HD := Lib.hid (fun W => l6Dec_any x W (by omega))
      rw [Int.toNat_natCast] at HN
      clear hx hd hxb
      generalize decs (xs.take j) = rs at *
      generalize bs (Lib.decDigits x) = tx at *
      go_wp2_with fail
      refine (HD.out _).mono ?_
      rintro e w2 ⟨rfl, hb2⟩
      have HO2 := Lib.hid (HO.out.below hb2 (Nat.le_refl _))
      have HB2 := Lib.hid (HR.out.trans (hb2.mono hsz))
      have hsz2 := HB2.out.size
      clear hb2
      go_wp2_with (at_builtin; refine wpList_push 1 16 9 encS encS_len encS_one (by omega) tx _ _ rfl rfl _ _ _ rfl Tryz.underlying60 info_str rfl w.heap.size _ _ rfl rfl rfl HO2.out (by have := HDL.out; omega) (by have := HDL.out; unfold maxLen; omega) hsz2 ?_; intro v' w' hown' hg'; have HO' := Lib.hid hown'; have HB' := Lib.hid (below_grown HB2.out hg' HO2.out (Nat.le_refl _)); clear hown' hg')
      go_roundw
      case rel => exact ⟨j + 1, by omega, by go_num, by rw [HN.out]; exact HO'.out, HB'.out⟩
      case measure => simp [intOf]; omega
    · obtain rfl : j = n := by omega
      rw [List.take_of_length_le (by rw [HL.out]; exact Nat.le_refl _)] at HO
      obtain ⟨A2, c2, rfl, hsl2, -⟩ := HO.out.slc encS_len (n := j) (by rw [decs, List.length_map]; exact HL.out)
      have HW := Lib.hid (l10Words_any A2 j c2 (xs.map fun x => Lib.decDigits x.toNat) wr (by rw [List.map_map]; exact hsl2) hn (fun l hl => by
        obtain ⟨x, hx, rfl⟩ := List.mem_map.1 hl
        have := HX.out x hx
        exact Nat.le_trans (decDigits_len 2 _ (by omega) (by omega)) (by omega)))
      rw [show Lib.join (xs.map fun x => Lib.decDigits x.toNat) [32] = spacedL xs from rfl] at HW
      have HSD := Lib.hid (fun W => l10Said_any (spacedL xs) ok W (by have := HSP.out; omega))
      clear hsl2 HO
      generalize bs (saidL (spacedL xs) ok) = T1 at *
      generalize bs (spacedL xs) = T0 at *
      go_wp2_with fail
      refine HW.out.mono ?_
      rintro e w2 ⟨rfl, hb2⟩
      have HB2 := Lib.hid (HR.out.trans (hb2.mono hsz))
      clear hb2 HW
      go_wp2_with fail
      refine (HSD.out _).mono ?_
      rintro e w3 ⟨rfl, hb3⟩
      have HB3 := Lib.hid (below_trans HB2.out hb3)
      clear hb3
      go_wp2_with fail
      go_ret
      exact ⟨rfl, HB3.out⟩
set_option maxRecDepth 20000 in
set_option maxHeartbeats 1600000 in
theorem l10Coaches_any (A : Option Addr) (n c : Nat) (net : List (List T3)) (w : World) (h : NetS w A n net) (hok : NetOk 6 net) :
    Calls Tryz.prog 112 #[.slice A n c] w (Only (.string (bs (textOf (net.map stopsL)))) w) := by
  have H := Lib.hid h
  have HL := Lib.hid h.len
  have HOK := Lib.hid hok
  have hn6 : n ≤ 6 := by rw [← h.len]; exact hok.2.2.1
  have HB := Lib.hid (show ∀ j, (textOf ((net.take j).map stopsL)).length ≤ 1206 from fun j => by
    have h1 := textOf_len 200 ((net.take j).map stopsL) (fun l hl => by
      obtain ⟨xs, hxs, rfl⟩ := List.mem_map.1 hl
      exact stopsL_len (hok.2.2.2 xs (List.mem_of_mem_take hxs)))
    rw [List.length_map, List.length_take] at h1
    have := hok.2.2.1
    omega)
  have HS0 : Hid ((⟨#[]⟩ : ByteArray) = bs (textOf ((net.take 0).map stopsL))) := Lib.hid rfl
  clear h hok
  go_enter Tryz.func112, Tryz.ntmps112
  go_wp2_with fail
  go_loopw [3, 4] (fun v i wr => ∃ j : Nat, j ≤ n ∧ i = .int .i64 j ∧ v = .string (bs (textOf ((net.take j).map stopsL))) ∧ Below w.heap.size w wr) (fun _ i _ => n - (intOf i).toNat)
  case atStart => exact ⟨0, by omega, rfl, by rw [← HS0.out], Below.refl _ _⟩
  case round =>
    obtain ⟨j, hj, rfl, rfl, hbr⟩ := hrel
    have HR := Lib.hid hbr
    clear hbr HS0
    by_cases hjn : j < n
    · obtain ⟨bb, off, A', n', c', zs, rfl, hbl, hcell, hz, hsl, hnc⟩ := H.out.at_ HR.out hjn
      have hso := HOK.out.2.2.2 zs (List.mem_of_getElem? hz)
      have HX := Lib.hid (specStopsText_any A' 6 n' c' zs wr (hsl.below HR.out) hso)
      have HN := Lib.hid (show textOf ((net.take (j + 1)).map stopsL) = textOf ((net.take j).map stopsL) ++ stopsL zs ++ [10] by rw [take_next hz, List.map_append]; simp [textOf])
      have hl0 := HB.out j
      have hl1 := stopsL_len hso
      have ad : ∀ W, (Op.stringOp .add (bs (textOf ((net.take j).map stopsL))) (bs (stopsL zs))).run Tryz.prog W = .ok (.string (bs (textOf ((net.take j).map stopsL) ++ stopsL zs))) W := add_long _ _ (by omega)
      have ad2 : ∀ W, (Op.stringOp .add (bs (textOf ((net.take j).map stopsL) ++ stopsL zs)) ⟨#[10]⟩).run Tryz.prog W = .ok (.string (bs (textOf ((net.take j).map stopsL) ++ stopsL zs ++ [10]))) W := add_long _ [10] (by rw [List.length_append, List.length_singleton]; omega)
      clear hz hsl hso hl0 hl1
      generalize hT2 : bs (textOf ((net.take j).map stopsL) ++ stopsL zs ++ [10]) = T2 at *
      have HT2 := Lib.hid hT2
      clear hT2
      generalize bs (textOf ((net.take j).map stopsL) ++ stopsL zs) = T1 at *
      generalize bs (textOf ((net.take j).map stopsL)) = T0 at *
      generalize bs (stopsL zs) = TZ at *
      go_wp2_with fail
      refine HX.out.mono ?_
      rintro e w2 ⟨rfl, hb2⟩
      have HB2 := Lib.hid (HR.out.trans (hb2.mono HR.out.size))
      clear hb2
      go_wp2_with fail
      go_roundw
      case rel => exact ⟨j + 1, by omega, by go_num, by rw [HN.out, HT2.out], HB2.out⟩
      case measure => simp [intOf]; omega
    · have HE := Lib.hid (show textOf ((net.take j).map stopsL) = textOf (net.map stopsL) by rw [List.take_of_length_le (by rw [HL.out]; omega)])
      generalize textOf ((net.take j).map stopsL) = T0 at *
      go_wp2_with fail
      go_ret
      exact ⟨by rw [HE.out]; rfl, HR.out⟩
/-! ### A number, a negative one's text too -/
set_option maxRecDepth 20000 in
set_option maxHeartbeats 800000 in
theorem l6Dec_neg (w : World) : Calls Tryz.prog 41 #[.int .i64 (-1)] w (Only (.string (bs (Lib.itoa (-1)))) w) := by
  have HD := Lib.hid (fun W => l6Dec_any 1 W (by omega))
  have ad : ∀ W, (Op.stringOp .add ⟨#[45]⟩ (bs (Lib.decDigits 1))).run Tryz.prog W = .ok (.string (bs (Lib.itoa (-1)))) W := fun W => add_long [45] (Lib.decDigits 1) (by have := decDigits_len 1 1 (by omega) (by omega); simp; omega) W
  generalize bs (Lib.itoa (-1)) = T1 at *
  generalize bs (Lib.decDigits 1) = T0 at *
  go_enter Tryz.func41, Tryz.ntmps41
  go_wp2_with fail
  refine (HD.out _).mono ?_
  rintro e w2 ⟨rfl, hb2⟩
  have HB2 := Lib.hid hb2
  clear hb2
  go_wp2_with fail
  go_ret
  exact ⟨rfl, HB2.out⟩
theorem l6Dec_itoa {x : Int} (h0 : -1 ≤ x) (h1 : x ≤ 1000000) (w : World) : Calls Tryz.prog 41 #[.int .i64 x] w (Only (.string (bs (Lib.itoa x))) w) := by
  by_cases h : x = -1
  · subst h
    exact l6Dec_neg w
  · obtain ⟨n, rfl⟩ : ∃ k : Nat, x = k := ⟨x.toNat, by omega⟩
    have := l6Dec_any n w (by omega)
    rwa [show Lib.decDigits n = Lib.itoa (n : Int) by rw [Lib.itoa_nonneg]] at this
theorem itoa_short {x : Int} (h0 : -1 ≤ x) (h1 : x ≤ 1000000) : (Lib.itoa x).length ≤ 10 := by
  unfold Lib.itoa
  split
  · rw [List.length_cons]
    have := decDigits_len 7 x.natAbs (by omega) (by omega)
    omega
  · have := decDigits_len 7 x.toNat (by omega) (by omega)
    omega
/-- A number that is told, or not. -/
theorem said_itoa {x : Int} (h : -1 ≤ x) : saidL (Lib.itoa x) (decide (0 ≤ x)) = if 0 ≤ x then decI x ++ [10] else [110, 111, 10] := by
  by_cases h0 : 0 ≤ x
  · rw [decide_eq_true h0, if_pos h0, itoa_dec h0]
    rfl
  · rw [decide_eq_false h0, if_neg h0]
    rfl
end Go.Proofs.YtgjllminidlolaaGreatDoor
/- Contracts: the reference's lines on roads and on letters that ask. -/
set_option linter.unusedVariables false
namespace Go.Proofs.YtgjllminidlolaaGreatDoor
open Go.RowKit

/-- A state of the reference, to be read. -/
structure SpS (W : World) (Ar : Option Addr) (cr : Nat) (An : Option Addr) (cn : Nat) (Ab : Option Addr) (cb : Nat) (s : LSt) : Prop where
  r : SlE 3 enc3 W Ar s.roads.length s.roads
  n : NetS W An s.net.length s.net
  b : SlE 3 encB W Ab s.list.length s.list
  rc : s.roads.length ≤ cr
theorem SpS.below {W W' : World} {Ar : Option Addr} {cr : Nat} {An : Option Addr} {cn : Nat} {Ab : Option Addr} {cb : Nat} {s : LSt} (h : SpS W Ar cr An cn Ab cb s) (hb : Below W.heap.size W W') : SpS W' Ar cr An cn Ab cb s :=
  ⟨h.r.below hb, h.n.below hb, h.b.below hb, h.rc⟩
def spV (Ar : Option Addr) (cr : Nat) (An : Option Addr) (cn : Nat) (Ab : Option Addr) (cb : Nat) (s : LSt) : Value := .agg #[.slice Ar s.roads.length cr, .slice An s.net.length cn, .slice Ab s.list.length cb]
theorem said_len {x : List UInt8} {ok : Bool} {k : Nat} (h : x.length ≤ k) : (saidL x ok).length ≤ k + 3 := by
  unfold saidL
  split
  · rw [List.length_append, List.length_singleton]; omega
  · simp
set_option maxRecDepth 20000 in
set_option maxHeartbeats 3200000 in
theorem l10Far_any (Ar : Option Addr) (nr cr : Nat) (vn vb : Value) (B : Option Addr) (c : Nat) (xs : List T3) (x y : Int) (w : World) (h : SlE 3 enc3 w Ar nr xs) (hn : nr ≤ 1000) (hN : SlE 1 encI w B 2 [x, y]) :
    Calls Tryz.prog 111 #[.agg #[.slice Ar nr cr, vn, vb], .string ⟨#[102, 97, 114]⟩, .slice B 2 c] w (Only (.string (bs (saidL (Lib.itoa (farV 6 xs x y)) (decide (0 ≤ farV 6 xs x y))))) w) := by
  obtain ⟨bb, off, rfl, hbl, g0, g1⟩ := num2 hN
  have hfb := farV_bd 6 xs x y
  have HF := Lib.hid (fun W' (hW' : Below w.heap.size w W') => specRoadsFar_any Ar 6 x y nr cr xs W' (h.below hW') (by omega) (by omega) (by omega))
  generalize farV 6 xs x y = v at *
  have HD := Lib.hid (fun W => l6Dec_itoa (x := v) (by omega) (by omega) W)
  have HSD := Lib.hid (fun W => l10Said_any (Lib.itoa v) (decide (0 ≤ v)) W (by have := itoa_short (x := v) (by omega) (by omega); omega))
  have B1 := Lib.hid (below_alloc (Below.refl w.heap.size w) (.cells #[.slice Ar nr cr, vn, vb] 66))
  have HC0 := Lib.hid (show (w.alloc (.cells #[.slice Ar nr cr, vn, vb] 66)).cell? ⟨w.heap.size, 0, none⟩ = some (.slice Ar nr cr) ∧ (w.alloc (.cells #[.slice Ar nr cr, vn, vb] 66)).cell? ⟨bb, off, none⟩ = some (.int .i64 x) ∧ (w.alloc (.cells #[.slice Ar nr cr, vn, vb] 66)).cell? ⟨bb, off + 1, none⟩ = some (.int .i64 y) from ⟨by simp, cell_below B1.out g0, cell_below B1.out g1⟩)
  clear hN h g0 g1
  generalize bs (saidL (Lib.itoa v) (decide (0 ≤ v))) = T1 at *
  generalize bs (Lib.itoa v) = T0 at *
  go_enter Tryz.func111, Tryz.ntmps111
  go_wp2_with fail
  go_region_held3 (fun w' => w'.cell? ⟨w.heap.size, 0, none⟩ = some (.slice Ar nr cr) ∧ w'.cell? ⟨bb, off, none⟩ = some (.int .i64 x) ∧ w'.cell? ⟨bb, off + 1, none⟩ = some (.int .i64 y))
    (first | exact HC0.out | exact CZ2.out | fail)
    (first
      | (go_at_call 54; (with_reducible_and_instances refine (HF.out _ (below_drew B1.out)).mono ?_); rintro e w2 ⟨rfl, hb2⟩; have HB2 := Lib.hid (below_trans (below_drew B1.out) hb2); have CZ2 := Lib.hid (cells3_below hb2 HC0.out); clear hb2)
      | fail)
  go_wp2_with fail
  refine (HD.out _).mono ?_
  rintro e w3 ⟨rfl, hb3⟩
  have HB3 := Lib.hid (below_trans HB2.out hb3)
  clear hb3
  go_wp2_with fail
  refine (HSD.out _).mono ?_
  rintro e w4 ⟨rfl, hb4⟩
  have HB4 := Lib.hid (below_trans HB3.out hb4)
  clear hb4
  go_wp2_with fail
  go_ret
  exact ⟨rfl, HB4.out⟩
set_option maxRecDepth 20000 in
set_option maxHeartbeats 3200000 in
theorem l10Way_any (Ar : Option Addr) (nr cr : Nat) (vn vb : Value) (B : Option Addr) (c : Nat) (xs : List T3) (x y : Int) (w : World) (h : SlE 3 enc3 w Ar nr xs) (hn : nr ≤ 1000) (hN : SlE 1 encI w B 2 [x, y]) :
    Calls Tryz.prog 111 #[.agg #[.slice Ar nr cr, vn, vb], .string ⟨#[119, 97, 121]⟩, .slice B 2 c] w (Only (.string (bs (saidL (spacedL (wayV 6 xs x y)) (decide (0 ≤ farV 6 xs x y))))) w) := by
  obtain ⟨bb, off, rfl, hbl, g0, g1⟩ := num2 hN
  have hns : (wayV 6 xs x y).length ≤ 8 ∧ ∀ u ∈ wayV 6 xs x y, 0 ≤ u ∧ u < 100 := by
    by_cases h : 0 ≤ farV 6 xs x y
    · exact ⟨(wayV_len h).2, fun u hu => by have := wayV_mem h u hu; omega⟩
    · rw [wayV_no (by omega)]
      exact ⟨by simp, fun u hu => by cases hu⟩
  have HF := Lib.hid (fun W' (hW' : Below w.heap.size w W') => specRoadsWay_any Ar 6 x y nr cr xs W' (h.below hW') (by omega) (by omega) (by omega))
  generalize wayV 6 xs x y = ns at *
  generalize decide (0 ≤ farV 6 xs x y) = bv at *
  have HNS := Lib.hid hns
  have B1 := Lib.hid (below_alloc (Below.refl w.heap.size w) (.cells #[.slice Ar nr cr, vn, vb] 66))
  have HC0 := Lib.hid (show (w.alloc (.cells #[.slice Ar nr cr, vn, vb] 66)).cell? ⟨w.heap.size, 0, none⟩ = some (.slice Ar nr cr) ∧ (w.alloc (.cells #[.slice Ar nr cr, vn, vb] 66)).cell? ⟨bb, off, none⟩ = some (.int .i64 x) ∧ (w.alloc (.cells #[.slice Ar nr cr, vn, vb] 66)).cell? ⟨bb, off + 1, none⟩ = some (.int .i64 y) from ⟨by simp, cell_below B1.out g0, cell_below B1.out g1⟩)
  clear hN h g0 g1 hns
  go_enter Tryz.func111, Tryz.ntmps111
  go_wp2_with fail
  go_region_held3 (fun w' => w'.cell? ⟨w.heap.size, 0, none⟩ = some (.slice Ar nr cr) ∧ w'.cell? ⟨bb, off, none⟩ = some (.int .i64 x) ∧ w'.cell? ⟨bb, off + 1, none⟩ = some (.int .i64 y))
    (first | exact HC0.out | exact CZ2.out | fail)
    (first
      | (go_at_call 25; (with_reducible_and_instances refine (HF.out _ (below_drew B1.out)).mono ?_); rintro e w2 ⟨v, rfl, hown, hb2⟩; have HO2 := Lib.hid hown; have HB2 := Lib.hid (below_trans (below_drew B1.out) hb2); have CZ2 := Lib.hid (cells3_below hb2 HC0.out); clear hown hb2)
      | fail)
  obtain ⟨m, hm⟩ : ∃ m, ns.length = m := ⟨_, rfl⟩
  obtain ⟨A2, c2, rfl, hsl2, -⟩ := HO2.out.slc encI_len hm
  have HLS := Lib.hid (l10List_any A2 m c2 ns bv w2 hsl2 (by have := HNS.out.1; omega) HNS.out.2)
  generalize bs (saidL (spacedL ns) bv) = T1 at *
  clear hsl2 hm CZ2
  go_wp2_with fail
  refine HLS.out.mono ?_
  rintro e w4 ⟨rfl, hb4⟩
  have HB4 := Lib.hid (below_trans HB2.out hb4)
  clear hb4
  go_wp2_with fail
  go_ret
  exact ⟨rfl, HB4.out⟩
set_option maxRecDepth 20000 in
set_option maxHeartbeats 3200000 in
theorem l10Post_any (An : Option Addr) (m cn : Nat) (B : Option Addr) (c : Nat) (net : List (List T3)) (x y z u : Int) (w : World) (h : NetS w An m net) (hn : m ≤ 1000) (hll : NetLen net) (hN : SlE 1 encI w B 4 [x, y, z, u]) :
    Calls Tryz.prog 113 #[.slice An m cn, .slice B 4 c] w (Only (.string (bs (saidL (Lib.itoa (postV 6 net x y z u)) (decide (0 ≤ postV 6 net x y z u))))) w) := by
  obtain ⟨bb, off, rfl, g0, g1, g2, g3⟩ := num4 hN
  have hfb := postV_bd 6 net x y z u
  have HF := Lib.hid (fun W' (hW' : Below w.heap.size w W') => specPostArrive_any An 6 m cn net x y z u W' (h.below hW') (by omega) hll (by omega) (by omega))
  generalize postV 6 net x y z u = v at *
  have HD := Lib.hid (fun W => l6Dec_itoa (x := v) (by omega) (by omega) W)
  have HSD := Lib.hid (fun W => l10Said_any (Lib.itoa v) (decide (0 ≤ v)) W (by have := itoa_short (x := v) (by omega) (by omega); omega))
  have HC0 := Lib.hid (show w.cell? ⟨bb, off, none⟩ = some (.int .i64 x) ∧ w.cell? ⟨bb, off + 1, none⟩ = some (.int .i64 y) ∧ w.cell? ⟨bb, off + 2, none⟩ = some (.int .i64 z) ∧ w.cell? ⟨bb, off + 3, none⟩ = some (.int .i64 u) from ⟨g0, g1, g2, g3⟩)
  clear hN h g0 g1 g2 g3 hll
  generalize bs (saidL (Lib.itoa v) (decide (0 ≤ v))) = T1 at *
  generalize bs (Lib.itoa v) = T0 at *
  go_enter Tryz.func113, Tryz.ntmps113
  go_wp2_with fail
  go_region_held3 (fun w' => w'.cell? ⟨bb, off, none⟩ = some (.int .i64 x) ∧ w'.cell? ⟨bb, off + 1, none⟩ = some (.int .i64 y) ∧ w'.cell? ⟨bb, off + 2, none⟩ = some (.int .i64 z) ∧ w'.cell? ⟨bb, off + 3, none⟩ = some (.int .i64 u))
    (first | exact HC0.out | exact CZ2.out | fail)
    (first
      | (go_at_call 29; (with_reducible_and_instances refine (HF.out _ (below_drew (Below.refl w.heap.size w))).mono ?_); rintro e w2 ⟨rfl, hb2⟩; have HB2 := Lib.hid ((below_drew (Below.refl w.heap.size w)).trans hb2); have CZ2 := Lib.hid (cells4_below hb2 (show w.drew.cell? ⟨bb, off, none⟩ = some (.int .i64 x) ∧ w.drew.cell? ⟨bb, off + 1, none⟩ = some (.int .i64 y) ∧ w.drew.cell? ⟨bb, off + 2, none⟩ = some (.int .i64 z) ∧ w.drew.cell? ⟨bb, off + 3, none⟩ = some (.int .i64 u) from HC0.out)); clear hb2)
      | fail)
  go_wp2_with fail
  refine (HD.out _).mono ?_
  rintro e w3 ⟨rfl, hb3⟩
  have HB3 := Lib.hid (below_trans HB2.out hb3)
  clear hb3
  go_wp2_with fail
  refine (HSD.out _).mono ?_
  rintro e w4 ⟨rfl, hb4⟩
  have HB4 := Lib.hid (below_trans HB3.out hb4)
  clear hb4
  go_wp2_with fail
  go_ret
  exact ⟨rfl, HB4.out⟩
end Go.Proofs.YtgjllminidlolaaGreatDoor
/- Contracts: StopsText of the program. -/
set_option linter.unusedVariables false
namespace Go.Proofs.YtgjllminidlolaaGreatDoor
open Go.RowKit

def stopS (p : T3) : ByteArray := bs (stopL p)
theorem stopS_join (xs : List T3) : Lib.join ((xs.map stopS).map (·.data.toList)) [32] = stopsL xs := by
  unfold stopsL
  rw [List.map_map]
  congr 1
theorem stopL_nat {x y z : Nat} : stopL ⟨(x : Int), (y : Int), (z : Int)⟩ = [UInt8.ofNat (48 + x)] ++ [58] ++ clockL (y : Int) ++ [45] ++ clockL (z : Int) := by
  simp [stopL, digU]
theorem nxtV_yes {B k j : Nat} (h : j < k) : nxtV B k j = .pointer (some ⟨B + 2 * (j + 1), 0, none⟩) := by unfold nxtV; rw [if_pos h]
theorem nxtV_no {B k : Nat} : nxtV B k k = .pointer none := by unfold nxtV; rw [if_neg (Nat.lt_irrefl _)]
theorem cells2_grown {W W' : World} {row : Option Nat} {g i k : Nat} {a b : Value} (hg : W.grownBy W' row) (h : W.cell? ⟨g, i, none⟩ = some a ∧ W.cell? ⟨g, k, none⟩ = some b) (hr : row ≠ some g) : W'.cell? ⟨g, i, none⟩ = some a ∧ W'.cell? ⟨g, k, none⟩ = some b :=
  ⟨by rw [grown_cell hg (World.block_lt_of_cell? W _ h.1) hr]; exact h.1, by rw [grown_cell hg (World.block_lt_of_cell? W _ h.2) hr]; exact h.2⟩
theorem ne_far {v : Value} {b c N : Nat} (h : ∀ i, v.ownBlock = some i → i < b ∨ c ≤ i) (hN : b ≤ N ∧ N < c) : v.ownBlock ≠ some N := fun e => by
  have := h N e
  omega
theorem cells2_below {W W' : World} (hb : Below W.heap.size W W') {p q : Addr} {a b : Value} (h : W.cell? p = some a ∧ W.cell? q = some b) : W'.cell? p = some a ∧ W'.cell? q = some b := ⟨cell_below hb h.1, cell_below hb h.2⟩
theorem NodesAt.grown {W W' : World} {B L : Nat} {xs : List T3} {row : Option Nat} (h : NodesAt W B xs) (hg : W.grownBy W' row) (hr : ∀ i, row = some i → i < B + 2 ∨ L ≤ i) (hL : ∀ j, j < xs.length → B + 2 * (j + 1) < L) : NodesAt W' B xs := fun j p hp => by
  obtain ⟨h1, h2, h3, h4⟩ := h j p hp
  have hj := hL j (List.getElem?_eq_some_iff.1 hp).1
  have hc : ∀ {i : Nat} {v : Value}, W.cell? ⟨B + 2 * (j + 1), i, none⟩ = some v → W'.cell? ⟨B + 2 * (j + 1), i, none⟩ = some v := fun {i v} hv => by
    rw [grown_cell hg (World.block_lt_of_cell? W _ hv) (show row ≠ some (B + 2 * (j + 1)) from fun e => by have := hr _ e; omega)]
    exact hv
  exact ⟨hc h1, hc h2, hc h3, hc h4⟩
theorem far_next {v v' : Value} {b c n : Nat} (h : ∀ i, v.ownBlock = some i → i < b ∨ c ≤ i) (hl : v'.ownBlock = v.ownBlock ∨ v'.ownBlock = some n) (hn : c ≤ n) : ∀ i, v'.ownBlock = some i → i < b ∨ c ≤ i := fun i hi => by
  rcases hl with hl | hl
  · exact h i (by rw [← hl]; exact hi)
  · rw [hl] at hi
    injection hi with hi
    omega
set_option maxRecDepth 20000 in
set_option maxHeartbeats 6400000 in
theorem implStopsText_any (A : Option Addr) (n : Int) (len c : Nat) (xs : List T3) (w : World) (h : SlE 3 enc3 w A len xs) (hok : StopsOk n xs) :
    Calls Tryz.prog 182 #[.int .i64 n, .slice A len c] w (Only (.string (bs (stopsL xs))) w) := by
  have HOK := Lib.hid hok
  have HL := Lib.hid h.len
  have hl8 : len ≤ 8 := by rw [← h.len]; exact hok.2.2.2.1
  have hl2 : 2 ≤ len := by rw [← h.len]; exact hok.2.2.1
  have hn1 : 1 ≤ n ∧ n ≤ 8 := ⟨hok.1, hok.2.1⟩
  have HM := Lib.hid (fun W (hW : Below w.heap.size w W) => linkStops_any A n len c xs W (h.below hW) (by omega))
  have OE := Lib.hid (own_new (enc := encS) (k := 1) w 9 w.heap.size (Nat.le_refl _) encS_len [] #[] rfl (by simp) rfl)
  clear h hok
  go_enter Tryz.func182, Tryz.ntmps182
  go_wp2_with fail
  refine (HM.out _ (below_alloc (Below.refl _ _) _)).mono ?_
  rintro e w2 ⟨hb, ⟨hok, rfl, hnod⟩ | ⟨hno, -⟩⟩
  rotate_left
  · exact absurd HOK.out hno
  have HB2 := Lib.hid (below_trans (below_alloc (Below.refl w.heap.size w) (.cells #[] 9)) hb)
  have O2 := Lib.hid (OwnE.below OE.out hb (Nat.le_refl _))
  clear hb hok OE HM
  obtain ⟨B, hB⟩ : ∃ B, (w.alloc (.cells #[] 9)).heap.size = B := ⟨_, rfl⟩
  have hwB : w.heap.size < B + 2 := by rw [← hB]; simp; omega
  rw [hB] at hnod
  rw [hB]
  have HLT := Lib.hid (show ∀ j, j < xs.length → B + 2 * (j + 1) < w2.heap.size from fun j hj => World.block_lt_of_cell? w2 _ (hnod j _ (List.getElem?_eq_getElem hj)).1)
  have HN := Lib.hid hnod
  clear hB hnod
  have HP0 := Lib.hid (nxtV_yes (B := B) (k := len) (j := 0) (by omega))
  obtain ⟨W0, rfl⟩ : ∃ W0, W0 = w2 := ⟨_, rfl⟩
  go_wp2_with fail
  go_loopg [5, 6] len (fun k v p wr => ∃ j : Nat, j + k = len ∧ p = nxtV B len j ∧ OwnE 1 encS 9 w.heap.size wr v ((xs.take j).map stopS) ∧ (∀ i, v.ownBlock = some i → i < B + 2 ∨ W0.heap.size ≤ i) ∧ W0.heap.size ≤ wr.heap.size ∧ NodesAt wr B xs ∧ Below w.heap.size w wr)
  case atStart => exact ⟨0, by omega, by rw [HP0.out], O2.out, fun i hi => by have hi : w.heap.size = i := Option.some.inj hi; omega, Nat.le_refl _, HN.out, HB2.out⟩
  case round =>
    obtain ⟨j, hjk, rfl, hown, hfar, hsz0, hnd, hbr⟩ := hrel
    have HFAR := Lib.hid hfar
    have HND := Lib.hid hnd
    have HSZ0 := Lib.hid hsz0
    have HR := Lib.hid hbr
    have HO := Lib.hid hown
    have HJ := Lib.hid hjk
    clear hown hbr hfar hsz0 hnd O2
    by_cases hjl : j < len
    · obtain ⟨p, hp⟩ : ∃ p, xs[j]? = some p := ⟨_, List.getElem?_eq_getElem (by rw [HL.out]; exact hjl)⟩
      obtain ⟨x, y, z⟩ := p
      have hob := HOK.out.2.2.2.2.1 _ (mem_at hp)
      dsimp only at hob
      obtain ⟨g0, g1, g2, g3⟩ := HND.out j _ hp
      dsimp only at g0 g1 g2
      rw [HL.out] at g3
      have HPX := Lib.hid hp
      rw [nxtV_yes hjl]
      obtain ⟨N, hNN⟩ : ∃ N, B + 2 * (j + 1) = N := ⟨_, rfl⟩
      have HNR := Lib.hid (show B + 2 ≤ N ∧ N < W0.heap.size by have := HLT.out j (by rw [HL.out]; exact hjl); omega)
      have HNN := Lib.hid hNN
      rw [hNN] at g0 g1 g2 g3
      rw [hNN]
      obtain ⟨nv, hnv⟩ : ∃ nv, nxtV B len (j + 1) = nv := ⟨_, rfl⟩
      rw [hnv] at g3
      have HNV := Lib.hid hnv
      obtain ⟨x, rfl⟩ : ∃ i : Nat, x = i := ⟨x.toNat, by omega⟩
      obtain ⟨y, rfl⟩ : ∃ i : Nat, y = i := ⟨y.toNat, by omega⟩
      obtain ⟨z, rfl⟩ : ∃ i : Nat, z = i := ⟨z.toNat, by omega⟩
      have hx10 : x < 10 := by omega
      have e2 : IntKind.u8.wrap (x : Int) = (x : Int) := IntWalk.u8_in _ (by omega)
      have e3 : IntKind.u8.wrap (48 + (x : Int)) = 48 + (x : Int) := IntWalk.u8_in _ (by omega)
      have hconv : (convert 22 9 (.slice (some ⟨wr.heap.size, 0, none⟩) 1 1)).run Tryz.prog (wr.alloc (.cells #[.int .u8 (48 + (x : Int))] 5)) = .ok (.string (bs [UInt8.ofNat (48 + x)])) (wr.alloc (.cells #[.int .u8 (48 + (x : Int))] 5)) := by
        rw [← digit_byte x hx10]
        exact conv_byte (by simp)
      have HTN := Lib.hid (stopL_nat (x := x) (y := y) (z := z))
      have hw2 : ([UInt8.ofNat (48 + x)] : List UInt8).length ≤ 1 := Nat.le_refl _
      have hw3 := clockL_len y
      have hw4 := clockL_len z
      have HD2 := Lib.hid (fun W => implClock_any y W (by omega))
      have HD3 := Lib.hid (fun W => implClock_any z W (by omega))
      have B1 := Lib.hid (below_alloc (Below.refl wr.heap.size wr) (.cells #[.int .u8 (48 + (x : Int))] 5))
      have HC0 := Lib.hid (cells2_below B1.out ⟨g1, g2⟩)
      have G3 := Lib.hid g3
      have HLJ := Lib.hid (show ((xs.take j).map stopS).length = j by rw [List.length_map, List.length_take, HL.out]; omega)
      have HNX := Lib.hid (show (xs.take (j + 1)).map stopS = (xs.take j).map stopS ++ [bs (stopL ⟨(x : Int), (y : Int), (z : Int)⟩)] by rw [take_next hp, List.map_append]; rfl)
      have HOF := Lib.hid (fun W (hW : Below wr.heap.size wr W) => OwnE.below HO.out hW (Nat.le_refl _))
      have HWZ := Lib.hid (show w.heap.size ≤ wr.heap.size from HR.out.size)
      clear hp hob g1 g2 g3 hnv hNN hjk
      have ad1 : ∀ W, (Op.stringOp .add (bs ([UInt8.ofNat (48 + x)])) ⟨#[58]⟩).run Tryz.prog W = .ok (.string (bs ([UInt8.ofNat (48 + x)] ++ [58]))) W := add_lists ([UInt8.ofNat (48 + x)]) [58] (Nat.le_trans hw2 (by decide)) (Nat.le_trans (show ([58] : List UInt8).length ≤ 1 from Nat.le_refl _) (by decide))
      have lad1 := lj_app hw2 (show ([58] : List UInt8).length ≤ 1 from Nat.le_refl _)
      have ad2 : ∀ W, (Op.stringOp .add (bs ([UInt8.ofNat (48 + x)] ++ [58])) (bs (clockL (y : Int)))).run Tryz.prog W = .ok (.string (bs ([UInt8.ofNat (48 + x)] ++ [58] ++ (clockL (y : Int))))) W := add_lists ([UInt8.ofNat (48 + x)] ++ [58]) (clockL (y : Int)) (Nat.le_trans lad1 (by decide)) (Nat.le_trans hw3 (by decide))
      have lad2 := lj_app lad1 hw3
      have ad3 : ∀ W, (Op.stringOp .add (bs ([UInt8.ofNat (48 + x)] ++ [58] ++ (clockL (y : Int)))) ⟨#[45]⟩).run Tryz.prog W = .ok (.string (bs ([UInt8.ofNat (48 + x)] ++ [58] ++ (clockL (y : Int)) ++ [45]))) W := add_lists ([UInt8.ofNat (48 + x)] ++ [58] ++ (clockL (y : Int))) [45] (Nat.le_trans lad2 (by decide)) (Nat.le_trans (show ([45] : List UInt8).length ≤ 1 from Nat.le_refl _) (by decide))
      have lad3 := lj_app lad2 (show ([45] : List UInt8).length ≤ 1 from Nat.le_refl _)
      have ad4 : ∀ W, (Op.stringOp .add (bs ([UInt8.ofNat (48 + x)] ++ [58] ++ (clockL (y : Int)) ++ [45])) (bs (clockL (z : Int)))).run Tryz.prog W = .ok (.string (bs (stopL ⟨x, y, z⟩))) W := fun W => by
        rw [HTN.out]
        exact add_lists ([UInt8.ofNat (48 + x)] ++ [58] ++ (clockL (y : Int)) ++ [45]) (clockL (z : Int)) (Nat.le_trans lad3 (by decide)) (Nat.le_trans hw4 (by decide)) W
      clear lad1 lad2 lad3
      clear hw2 hw3 hw4 HTN
      generalize hTN : bs (stopL ⟨(x : Int), (y : Int), (z : Int)⟩) = TN at *
      clear hTN
      generalize bs ([UInt8.ofNat (48 + x)] ++ [58] ++ (clockL (y : Int)) ++ [45]) = T2 at *
      generalize bs ([UInt8.ofNat (48 + x)] ++ [58] ++ (clockL (y : Int))) = T1 at *
      generalize bs ([UInt8.ofNat (48 + x)] ++ [58]) = T0 at *
      generalize bs [UInt8.ofNat (48 + x)] = TS at *
      generalize bs (clockL (y : Int)) = D2 at *
      generalize bs (clockL (z : Int)) = D3 at *
      generalize (xs.take j).map stopS = rs at *
      have N1 := Lib.hid (show (rs.length + 1) * 16 ≤ 140737488355328 ∧ rs.length + 1 ≤ maxLen by rw [HLJ.out]; unfold maxLen; omega)
      go_wp2_with fail
      go_region_held3 (fun w' => w'.cell? ⟨N, 1, none⟩ = some (.int .i64 y) ∧ w'.cell? ⟨N, 2, none⟩ = some (.int .i64 z))
        (first | exact HC0.out | exact CZ3.out | exact CZ4.out | exact CZ5.out | exact CZ6.out | fail)
        (first
          | (go_at_call 209; have HQ := HB3; (with_reducible_and_instances refine (HD3.out _).mono ?_); rintro e w4 ⟨rfl, hb4⟩; have HB4 := Lib.hid (below_trans HB3.out hb4); have CZ4 := Lib.hid (cells2_below hb4 CZ3.out); have OA := Lib.hid ((HOF.out w4 HB4.out).alloc (.cells #[.string TN] 9)); have SN := Lib.hid (slE_new (enc := encS) (k := 1) w4 9 encS_len [TN] #[.string TN] rfl (by unfold maxLen; simp) (n := 1) rfl (g := w4.heap.size) rfl); have BA := Lib.hid (below_alloc HB4.out (.cells #[.string TN] 9)); have XA := Lib.hid (Nat.le_trans HWZ.out BA.out.size); have CZ5 := Lib.hid (cells2_below (below_alloc (Below.refl _ w4) (.cells #[.string TN] 9)) CZ4.out); clear hb4)
          | (go_at_call 209; (with_reducible_and_instances refine (HD2.out _).mono ?_); rintro e w3 ⟨rfl, hb3⟩; have HB3 := Lib.hid (below_trans (below_drew B1.out) hb3); have CZ3 := Lib.hid (cells2_below hb3 HC0.out); clear hb3)
          | (go_loud (refine step_cat_at (bytes := 16) (base := w.heap.size) encS_len encS_one (Nat.succ_pos 0) rfl (.tmp 27) (.tmp 45) _ rfl Tryz.underlying60 info_str rfl _ rs rfl OA.out rfl SN.out N1.out.1 N1.out.2 XA.out ?_; intro v2 w5 hown2 hg2 hl2; have O5 := Lib.hid hown2; have F5 := Lib.hid (far_next HFAR.out hl2 (Nat.le_trans HSZ0.out BA.out.size)); have ND5 := Lib.hid ((HND.out.below BA.out).grown hg2 HFAR.out HLT.out); have S5 := Lib.hid (Nat.le_trans (Nat.le_trans HSZ0.out BA.out.size) hg2.size); have B5 := Lib.hid ((HR.out.trans (BA.out.mono HWZ.out)).grown hg2 XA.out (fun j hj => (OA.out.lt j hj).1)); have CZ6 := Lib.hid (cells2_grown hg2 CZ5.out (ne_far HFAR.out HNR.out)); clear hown2 hg2 hl2))
          | fail)
      have hg3 := (ND5.out j _ HPX.out).2.2.2
      rw [HL.out, HNN.out, HNV.out] at hg3
      obtain ⟨nq, rfl⟩ : ∃ nq, nv = .pointer nq := ⟨_, HNV.out.symm⟩
      go_wp2_with fail
      go_roundg (len - (j + 1))
      case measure => have := HJ.out; omega
      case rel => exact ⟨j + 1, by omega, HNV.out.symm, by rw [HNX.out]; exact O5.out, F5.out, S5.out, ND5.out, B5.out⟩
    · obtain rfl : j = len := by have := HJ.out; omega
      rw [nxtV_no]
      rw [List.take_of_length_le (by rw [HL.out]; exact Nat.le_refl _)] at HO
      have HJN := Lib.hid (join_any HO.out [32] (by rw [List.length_map, HL.out]; omega) (by rw [stopS_join]; have := stopsL_len HOK.out; omega))
      rw [stopS_join] at HJN
      go_wp2_with fail
      refine HJN.out.mono ?_
      rintro e w3 ⟨rfl, hb3⟩
      have HB3 := Lib.hid (HR.out.trans (hb3.mono HR.out.size))
      clear hb3
      go_wp2_with fail
      go_ret
      exact ⟨rfl, HB3.out⟩
end Go.Proofs.YtgjllminidlolaaGreatDoor
/- Contracts: the command of a script that tells all coaches. -/
set_option linter.unusedVariables false
namespace Go.Proofs.YtgjllminidlolaaGreatDoor
open Go.RowKit

def netS (net : List (List T3)) : List ByteArray := net.map fun xs => bs (stopsL xs)
set_option maxRecDepth 20000 in
set_option maxHeartbeats 3200000 in
theorem timetables_any (w0 : World) (R : Nat) (s : LSt) (av : Nat → Prop) (A : Option Addr) (n c : Nat) (W : World) (hs : St w0 R s av W) (hok : NetOk 6 s.net) :
    Calls Tryz.prog 141 #[.pointer (some ⟨R, 0, none⟩), .slice A n c] W (Ran w0 R s (netS s.net) true av W) := by
  obtain ⟨Ab, cb, hc, hf, hsl, hcap, hR⟩ := hs.netAt
  have HS := Lib.hid hs
  have HOK := Lib.hid hok
  have HN := Lib.hid hsl
  have hl6 := hok.2.2.1
  have OE := Lib.hid (own_new (enc := encS) (k := 1) W 9 W.heap.size (Nat.le_refl _) encS_len [] #[] rfl (by simp) rfl)
  clear hs hok hsl hcap
  generalize hlen : s.net.length = len at *
  have HL := Lib.hid hlen
  clear hlen
  go_enter Tryz.func141, Tryz.ntmps141
  go_wp2_with fail
  go_loopw [6, 15] (fun v i wr => ∃ k : Nat, k ≤ len ∧ i = .int .i64 k ∧ OwnE 1 encS 9 W.heap.size wr v (netS (s.net.take k)) ∧ Below W.heap.size W wr) (fun _ i _ => len - (intOf i).toNat)
  case atStart => exact ⟨0, by omega, rfl, OE.out, below_alloc (Below.refl _ _) _⟩
  case round =>
    obtain ⟨k, hk, rfl, hown, hbr⟩ := hrel
    have HO := Lib.hid hown
    have HR := Lib.hid hbr
    clear hown hbr OE
    have hsz := HR.out.size
    by_cases hkl : k < len
    rotate_left
    · obtain rfl : k = len := by omega
      have e : s.net.take k = s.net := List.take_of_length_le (by rw [HL.out]; exact Nat.le_refl _)
      rw [e] at HO
      clear e
      go_wp2_with fail
      go_ret2
      exact ⟨_, rfl, HO.out, grown_of_below HR.out _, HS.out.below HR.out⟩
    · obtain ⟨bb, off, A', n', c', zs, rfl, hbl, hcell, hz, hsl, hnc⟩ := HN.out.at_ HR.out hkl
      have HX := Lib.hid (implStopsText_any A' 6 n' c' zs wr (hsl.below HR.out) (HOK.out.2.2.2 zs (List.mem_of_getElem? hz)))
      have HDL := Lib.hid (show (netS (s.net.take k)).length = k by rw [netS, List.length_map, List.length_take, HL.out]; omega)
      have HNX := Lib.hid (show netS (s.net.take (k + 1)) = netS (s.net.take k) ++ [bs (stopsL zs)] by rw [take_next hz]; unfold netS; rw [List.map_append]; rfl)
      clear hz hsl
      generalize netS (s.net.take k) = rs at *
      generalize bs (stopsL zs) = tx at *
      go_wp2_with fail
      refine HX.out.mono ?_
      rintro e w2 ⟨rfl, hb⟩
      have HO2 := Lib.hid (HO.out.below hb (Nat.le_refl _))
      have HB2 := Lib.hid (HR.out.trans (hb.mono hsz))
      have hsz2 := HB2.out.size
      clear hb HO HX
      go_wp2_with (at_builtin; refine wpList_push 1 16 9 encS encS_len encS_one (by omega) tx _ _ rfl rfl _ _ _ rfl Tryz.underlying60 info_str rfl W.heap.size _ _ rfl rfl rfl HO2.out (by rw [HDL.out]; omega) (by rw [HDL.out]; unfold maxLen; omega) hsz2 ?_; intro v' w' hown' hg'; have HO' := Lib.hid hown'; have HB' := Lib.hid (below_grown HB2.out hg' HO2.out (Nat.le_refl _)); clear hown' hg')
      go_roundw
      case rel => exact ⟨k + 1, by omega, by go_num, by rw [HNX.out]; exact HO'.out, HB'.out⟩
      case measure => simp [intOf]; omega
end Go.Proofs.YtgjllminidlolaaGreatDoor
/- Contracts: the last ride to a town. -/
set_option linter.unusedVariables false
namespace Go.Proofs.YtgjllminidlolaaGreatDoor
open Go.RowKit

theorem ride_below {W w : World} (hb : Below W.heap.size W w) (x y z : Value) : Below W.heap.size W (((w.setCell ⟨W.heap.size + 1, 0, none⟩ x).setCell ⟨W.heap.size + 1, 1, none⟩ y).setCell ⟨W.heap.size + 1, 2, none⟩ z) := by
  have one : ∀ {w : World} (i : Nat) (v : Value), Below W.heap.size W w → Below W.heap.size W (w.setCell ⟨W.heap.size + 1, i, none⟩ v) := fun {w} i v h =>
    h.grown (grown_setCell w ⟨W.heap.size + 1, i, none⟩ v) h.size (fun j hj => by injection hj with hj; have hj : W.heap.size + 1 = j := hj; omega)
  exact one 2 z (one 1 y (one 0 x hb))
/-- The last ride has been found. -/
def LastRet (c i k : Nat) (w : World) (e : Ending) (w' : World) : Prop := e = .returned (.tuple #[.agg #[.int .i64 c, .int .i64 i, .int .i64 k], .bool true]) ∧ Below w.heap.size w w'
set_option maxRecDepth 20000 in
set_option maxHeartbeats 6400000 in
theorem lastRide_any {P T : Nat} {A : Option Addr} {m cN : Nat} {net : List (List T3)} {s0 t0 ch : Int} {n c : Nat} {f : Int → Int} (W : World) (pt : PtAt P T (.slice A m cN) s0 ch n c f W) (hN : NetS W A m net) (hok : PostOk n net s0 t0 ch) (hf : TableOf net s0 t0 ch f) (hc : n ≤ c)
    (town : Nat) (ht : town < n) (lc li lk : Nat) (hl : LastP net f s0 ch town lc li lk) :
    Calls Tryz.prog 210 #[.pointer (some ⟨P, 0, none⟩), .int .i64 town] W (LastRet lc li lk W) := by
  have HOK := Lib.hid hok
  have HF := Lib.hid hf
  have HLP := Lib.hid hl
  have HN := Lib.hid hN
  have HLN := Lib.hid hN.len
  have hm6 : m ≤ 6 := by have := hok.net.2.2.1; rw [hN.len] at this; exact this
  have hlc : lc < m := by
    obtain ⟨xs, p, q, h1, -⟩ := hl.ex
    have := (List.getElem?_eq_some_iff.1 h1).1
    rw [hN.len] at this
    exact this
  obtain ⟨W1, hW1⟩ : ∃ W1, (W.alloc (.cells #[.int .i64 (town : Int)] 3)).alloc (.cells #[.int .i64 0, .int .i64 0, .int .i64 0] 211) = W1 := ⟨_, rfl⟩
  have hsW : (W.alloc (.cells #[.int .i64 (town : Int)] 3)).heap.size = W.heap.size + 1 := by simp
  have BX := Lib.hid (show Below W.heap.size W W1 by rw [← hW1]; exact below_alloc (below_alloc (Below.refl W.heap.size W) (.cells #[.int .i64 (town : Int)] 3)) (.cells #[.int .i64 0, .int .i64 0, .int .i64 0] 211))
  have HU1 := Lib.hid (show W1.cell? ⟨W.heap.size, 0, none⟩ = some (.int .i64 (town : Int)) by rw [← hW1, World.cell?_alloc_lt _ _ _ (by rw [hsW]; exact Nat.lt_succ_self _)]; simp)
  have HC1 := Lib.hid (show W1.cell? ⟨W.heap.size + 1, 0, none⟩ = some (.int .i64 0) ∧ W1.cell? ⟨W.heap.size + 1, 1, none⟩ = some (.int .i64 0) ∧ W1.cell? ⟨W.heap.size + 1, 2, none⟩ = some (.int .i64 0) by rw [← hW1, ← hsW]; exact ⟨by simp, by simp, by simp⟩)
  have HZ1 := Lib.hid (show ∀ i, W1.frozen? ⟨W.heap.size + 1, i, none⟩ = false from fun i => by rw [← hW1, ← hsW]; exact OwnE.frozen (own_new (enc := enc3) (k := 3) (W.alloc (.cells #[.int .i64 (town : Int)] 3)) 211 0 (Nat.zero_le _) enc3_len [⟨0, 0, 0⟩] #[.int .i64 0, .int .i64 0, .int .i64 0] rfl (by unfold maxLen; simp) rfl) i)
  have HL1 := Lib.hid (show W.heap.size + 1 < W1.heap.size by rw [← hW1, ← hsW]; simp)
  have HW1 := Lib.hid hW1
  have PX := Lib.hid (pt.below BX.out)
  have hpn := PX.out.net
  rw [← hW1] at hpn
  clear pt hN hok hf hl hW1
  go_enter Tryz.func210, Tryz.ntmps210
  go_wp2_with fail
  clear hpn
  go_loopw [15] (fun i wr => ∃ j : Nat, j ≤ lc ∧ i = .int .i64 j ∧ Below W1.heap.size W1 wr) (fun i _ => m - (intOf i).toNat)
  case atStart => exact ⟨0, by omega, rfl, by rw [HW1.out]; exact Below.refl _ _⟩
  case round =>
    obtain ⟨j, hj, rfl, hbr⟩ := hrel
    have HR := Lib.hid hbr
    have HRW := Lib.hid (below_trans BX.out hbr)
    clear hbr
    have hjm : j < m := by omega
    obtain ⟨bb, off, A', n', c', xs, rfl, hbl, hcell, hx, hsl, hnc⟩ := HN.out.at_ HRW.out hjm
    have HX := Lib.hid hx
    have HSL := Lib.hid (hsl.below HRW.out)
    have hok := HOK.out.net.2.2.2 xs (List.mem_of_getElem? hx)
    have hn8 : n' ≤ 8 := by have := hok.2.2.2.1; rw [hsl.len] at this; exact this
    have PR := Lib.hid (PX.out.below HR.out)
    have HUW := Lib.hid (cell_below' HR.out HU1.out)
    clear hx hsl hok
    go_wp2_with fail
    refine (indexLast_any (fun q => q.a = (town : Int)) (.pointer (some ⟨W.heap.size, 0, none⟩)) A' n' c' xs wr HSL.out (by omega) (fun W' hW' i x y z _ => lastTest_any x y z town W.heap.size W' (cell_below' hW' HUW.out))).mono ?_
    rintro e w2 ⟨v, rfl, hv, hb2⟩
    have HV := Lib.hid hv
    have P2 := Lib.hid (PR.out.below hb2)
    have HB2 := Lib.hid (HR.out.trans (hb2.mono HR.out.size))
    have HSL2 := Lib.hid (HSL.out.below hb2)
    have HU2 := Lib.hid (cell_below' hb2 HUW.out)
    clear hv hb2
    rcases HV.out with ⟨rfl, hno⟩ | ⟨k, ⟨pa, pb, pc⟩, rfl, hp, hpu, hfirst⟩
    · have hjl : j < lc := by
        rcases Nat.lt_or_ge j lc with h | h
        · exact h
        · exfalso
          obtain rfl : j = lc := by omega
          obtain ⟨ys, p, q, h1, h2, h3, -⟩ := HLP.out.ex
          rw [HX.out] at h1
          injection h1 with h1
          subst h1
          obtain ⟨⟨r, hr, hra⟩, -⟩ := h2
          exact hno _ r hr hra
      clear hno
      go_wp2_with fail
      go_quiet (fail)
      go_wp2_with fail
      exact ⟨⟨j + 1, by omega, by push_cast; rfl, bl_drewN HB2.out _⟩, by simp only [intOf]; omega⟩
    dsimp only at hpu
    subst hpu
    have hkn : k < n' := by
      have := (List.getElem?_eq_some_iff.1 hp).1
      rw [HSL.out.len] at this
      exact this
    have hkz : ¬ (k : Int) < 0 := by omega
    have hkz2 : (0 : Int) ≤ (k : Int) := by omega
    have hkn2 : (k : Int) < (n' : Int) := by omega
    obtain ⟨b', off', x0, y0, z0, rfl, hbl', hp', -, q0, q1, q2⟩ := at3 HSL2.out (Below.refl _ _) hkn
    obtain ⟨rfl, rfl, rfl⟩ : x0 = (town : Int) ∧ y0 = pb ∧ z0 = pc := by
      rw [hp] at hp'
      injection hp' with hp'
      injection hp' with h1 h2 h3
      exact ⟨h1.symm, h2.symm, h3.symm⟩
    have HP := Lib.hid hp
    have HAT := Lib.hid (show AtP xs (town : Int) k from ⟨⟨_, hp, rfl⟩, fun i r hi hr => hfirst i r hi hr⟩)
    have hft := P2.out.at_ town ht
    have htm := P2.out.tms
    have hu2 := HU2.out
    obtain ⟨fv, hfv⟩ : ∃ fv, f (town : Int) = fv := ⟨_, rfl⟩
    rw [hfv] at hft
    have HFV := Lib.hid hfv
    have htz : (town : Int) < (n : Int) := by omega
    clear hp hp' hfirst hfv
    by_cases hyb : y0 = fv
    rotate_left
    · have hjl : j < lc := by
        rcases Nat.lt_or_ge j lc with h | h
        · exact h
        · exfalso
          obtain rfl : j = lc := by omega
          obtain ⟨ys, p, q, h1, h2, h3, h4, -⟩ := HLP.out.ex
          rw [HX.out] at h1
          injection h1 with h1
          subst h1
          obtain rfl := at_unique h2 HAT.out
          rw [HP.out] at h3
          injection h3 with h3
          subst h3
          exact hyb (by rw [← HFV.out]; exact h4)
      have dn : (y0 != fv) = true := by simpa using hyb
      have hyb2 : ¬ y0 = fv := hyb
      clear hyb
      go_wp2_with fail
      go_quiet (fail)
      go_wp2_with fail
      exact ⟨⟨j + 1, by omega, by push_cast; rfl, bl_drewN HB2.out _⟩, by simp only [intOf]; omega⟩
    have HFQ := Lib.hid (show y0 = f (town : Int) by rw [HFV.out]; exact hyb)
    have dn : (y0 != fv) = false := by simpa using hyb
    have HT := Lib.hid (fun W' (hW' : Below w2.heap.size w2 W') (i : Nat) (x y z : Int) (hi : (xs.take k)[i]? = some ⟨x, y, z⟩) => (by
      have hmem := List.mem_of_mem_take (List.mem_of_getElem? hi)
      have hb := (HOK.out.net.2.2.2 xs (List.mem_of_getElem? HX.out)).2.2.2.2.1 _ hmem
      dsimp only at hb
      obtain ⟨x, rfl⟩ : ∃ a : Nat, x = a := ⟨x.toNat, by omega⟩
      have hfb := table_bd HOK.out HF.out (x : Int)
      exact canTake_any x y z W' (P2.out.below hW') (by omega) hc hfb HOK.out.ch : Calls Tryz.prog 170 #[.pointer (some ⟨P, 0, none⟩), .agg #[.int .i64 x, .int .i64 y, .int .i64 z]] W' (OnlyB (Rdy f s0 ch ⟨x, y, z⟩) W')))
    clear hyb
    go_wp2_with fail
    go_quiet (fail)
    go_wp2_with fail
    refine (indexTake_any (Rdy f s0 ch) (.pointer (some ⟨P, 0, none⟩)) _ k c' (xs.take k) _ ((HSL2.out.below (bl_drewN (Below.refl _ w2) _)).take (Nat.le_of_lt hkn)) (by omega) (fun W' hW' i x y z hi => HT.out W' ((bl_drewN (Below.refl w2.heap.size w2) _).trans hW') i x y z hi)).mono ?_
    rintro e w3 ⟨v2, rfl, hv, hb3⟩
    have HV2 := Lib.hid hv
    have HB3 := Lib.hid ((bl_drewN HB2.out _).trans (hb3.mono HB2.out.size))
    clear hv hb3
    rcases HV2.out with ⟨rfl, hno⟩ | ⟨i, p, rfl, hpi, hri, hfi⟩
    · have hjl : j < lc := by
        rcases Nat.lt_or_ge j lc with h | h
        · exact h
        · exfalso
          obtain rfl : j = lc := by omega
          obtain ⟨ys, p, q, h1, h2, h3, h4, h5, h6, h7, -⟩ := HLP.out.ex
          rw [HX.out] at h1
          injection h1 with h1
          subst h1
          obtain rfl := at_unique h2 HAT.out
          exact hno li p (by rw [List.getElem?_take, if_pos h5]; exact h6) h7
      clear hno
      go_wp2_with fail
      exact ⟨⟨j + 1, by omega, by push_cast; rfl, HB3.out⟩, by simp only [intOf]; omega⟩
    · have hik : i < k := by
        have := (List.getElem?_eq_some_iff.1 hpi).1
        rw [List.length_take] at this
        omega
      rw [List.getElem?_take, if_pos hik] at hpi
      have hall : j = lc ∧ k = lk ∧ i = li := by
        have hjl : j = lc := by
          rcases Nat.lt_or_ge j lc with h | h
          · exact absurd hri (HLP.out.no j xs h HX.out k HAT.out _ HP.out HFQ.out i p hik hpi)
          · omega
        subst hjl
        obtain ⟨ys, p', q, h1, h2, h3, h4, h5, h6, h7, h8⟩ := HLP.out.ex
        rw [HX.out] at h1
        injection h1 with h1
        subst h1
        obtain rfl := at_unique h2 HAT.out
        refine ⟨rfl, rfl, ?_⟩
        rcases Nat.lt_trichotomy i li with h | h | h
        · exact absurd hri (h8 i p h hpi)
        · exact h
        · exact absurd h7 (hfi li p' h (by rw [List.getElem?_take, if_pos (by omega)]; exact h6))
      obtain ⟨rfl, rfl, rfl⟩ := hall
      have hiz : (0 : Int) ≤ (i : Int) := by omega
      have HC3 := cells3_below HB3.out HC1.out
      have HZ3 := fun q => (show w3.frozen? ⟨W.heap.size + 1, q, none⟩ = false by rw [World.frozen?_of_block (w := W1) (HB3.out.block _ HL1.out)]; exact HZ1.out q)
      have HBF := Lib.hid (ride_below (below_trans BX.out HB3.out) (.int .i64 (j : Int)) (.int .i64 (i : Int)) (.int .i64 (k : Int)))
      obtain ⟨c1, c2, c3⟩ := HC3
      clear hpi hri hfi
      go_wp2_with fail
      refine bodyPost_ret (v := .tuple #[.agg #[.int .i64 (j : Int), .int .i64 (i : Int), .int .i64 (k : Int)], .bool true]) (by rw [results_cell_tmp rfl]; go_simp) rfl ?_
      exact ⟨rfl, HBF.out⟩
end Go.Proofs.YtgjllminidlolaaGreatDoor
/- Contracts: slices.Reverse of rides. -/
set_option linter.unusedVariables false
namespace Go.Proofs.YtgjllminidlolaaGreatDoor
open Go.RowKit

/-- So many of a list have been turned about, from both ends. -/
def RevK (xs : List T3) (k : Nat) (ys : List T3) : Prop := ys.length = xs.length ∧ ∀ q, q < xs.length → ys[q]? = if q < k ∨ xs.length ≤ q + k then xs[xs.length - 1 - q]? else xs[q]?
theorem revK_start (xs : List T3) : RevK xs 0 xs := ⟨rfl, fun q hq => by rw [if_neg (by omega)]⟩
theorem revK_next {xs ys : List T3} {k : Nat} (h : RevK xs k ys) (hk : k + k + 1 < xs.length) {p r : T3} (hp : ys[k]? = some p) (hr : ys[xs.length - 1 - k]? = some r) : RevK xs (k + 1) ((ys.set k r).set (xs.length - 1 - k) p) := by
  obtain ⟨hl, hq⟩ := h
  have e1 := hq k (by omega)
  have e2 := hq (xs.length - 1 - k) (by omega)
  rw [if_neg (by omega), hp] at e1
  rw [if_neg (by omega), hr] at e2
  refine ⟨by rw [List.length_set, List.length_set, hl], fun q hqn => ?_⟩
  rw [List.getElem?_set, List.getElem?_set]
  by_cases h1 : xs.length - 1 - k = q
  · rw [if_pos h1, if_pos (by rw [List.length_set]; omega), if_pos (by omega), e1]
    congr 1
    omega
  · rw [if_neg h1]
    by_cases h2 : k = q
    · rw [if_pos h2, if_pos (by omega), if_pos (by omega), e2]
      congr 1
      omega
    · rw [if_neg h2, hq q hqn]
      by_cases h3 : q < k ∨ xs.length ≤ q + k
      · rw [if_pos h3, if_pos (by omega)]
      · rw [if_neg h3, if_neg (by omega)]
theorem revK_end {xs ys : List T3} {k : Nat} (h : RevK xs k ys) (hk : xs.length ≤ k + k + 1) : ys = xs.reverse := by
  obtain ⟨hl, hq⟩ := h
  apply List.ext_getElem?
  intro q
  by_cases hqn : q < xs.length
  · rw [hq q hqn, List.getElem?_reverse hqn]
    by_cases h3 : q < k ∨ xs.length ≤ q + k
    · rw [if_pos h3]
    · rw [if_neg h3]
      congr 1
      omega
  · rw [List.getElem?_eq_none (by omega), List.getElem?_eq_none (by rw [List.length_reverse]; omega)]
/-- The rides lie the other way about. -/
def Reversed (base g n c : Nat) (xs : List T3) (w : World) (e : Ending) (w' : World) : Prop :=
  e = .returned (.tuple #[]) ∧ OwnE 3 enc3 211 base w' (.slice (some ⟨g, 0, none⟩) n c) xs.reverse ∧ w.grownBy w' (some g)
set_option maxRecDepth 20000 in
set_option maxHeartbeats 3200000 in
theorem reverse_any (base g n c : Nat) (xs : List T3) (w : World) (h : OwnE 3 enc3 211 base w (.slice (some ⟨g, 0, none⟩) n c) xs) (hl : xs.length = n) (hn : n ≤ 1000) :
    Calls Tryz.prog 211 #[.slice (some ⟨g, 0, none⟩) n c] w (Reversed base g n c xs w) := by
  have H := Lib.hid h
  have HL := Lib.hid hl
  have hw1 : IntKind.i64.wrap ((n : Int) - 1) = (n : Int) - 1 := IntWalk.i64_in _ (by omega)
  clear h hl
  go_enter Tryz.func211, Tryz.ntmps211
  go_wp2_with fail
  go_loopw [2, 3] (fun i j wr => ∃ (k : Nat) (ys : List T3), k ≤ n ∧ i = .int .i64 k ∧ j = .int .i64 ((n : Int) - 1 - k) ∧ RevK xs k ys ∧ OwnE 3 enc3 211 base wr (.slice (some ⟨g, 0, none⟩) n c) ys ∧ w.grownBy wr (some g)) (fun i _ _ => n - (intOf i).toNat)
  case atStart => exact ⟨0, xs, by omega, rfl, by simp, revK_start xs, H.out, World.grownBy.refl _ _⟩
  case round =>
    obtain ⟨k, ys, hk, rfl, rfl, hrv, hown, hg⟩ := hrel
    have HV := Lib.hid hrv
    have HO := Lib.hid hown
    have HG := Lib.hid hg
    have HYL := Lib.hid (show ys.length = n by rw [hrv.1, HL.out])
    clear hrv hown hg
    by_cases hkn : k + k + 1 < n
    · obtain ⟨j, hj⟩ : ∃ j : Nat, n - 1 - k = j := ⟨_, rfl⟩
      have hjz : (n : Int) - 1 - (k : Int) = (j : Int) := by omega
      rw [hjz]
      obtain ⟨⟨p1, p2, p3⟩, hp⟩ : ∃ p, ys[k]? = some p := ⟨_, List.getElem?_eq_getElem (by rw [HYL.out]; omega)⟩
      obtain ⟨⟨r1, r2, r3⟩, hr⟩ : ∃ p, ys[j]? = some p := ⟨_, List.getElem?_eq_getElem (by rw [HYL.out]; omega)⟩
      have HN := Lib.hid (show RevK xs (k + 1) ((ys.set k ⟨r1, r2, r3⟩).set j ⟨p1, p2, p3⟩) by
        have := revK_next HV.out (by rw [HL.out]; exact hkn) hp (by rw [HL.out, hj]; exact hr)
        rw [HL.out, hj] at this
        exact this)
      obtain ⟨a1, a2, a3⟩ := OwnE.cell3 HO.out hp
      obtain ⟨b1, b2, b3⟩ := OwnE.cell3 HO.out hr
      have S1 := own3_set HO.out HYL.out (j := k) (by omega) r1 r2 r3
      have S2 := own3_set S1.1 (by rw [List.length_set]; exact HYL.out) (j := j) (by omega) p1 p2 p3
      have HS := Lib.hid (And.intro S2.1 (grown_trans S1.2 S2.2))
      have HSD := Lib.hid (OwnE.drew S2.1)
      have hfz := OwnE.frozen HO.out
      have hkj : (k : Int) < (j : Int) := by omega
      have hkz : (0 : Int) ≤ (k : Int) ∧ (k : Int) < (n : Int) := by omega
      have hjz2 : (0 : Int) ≤ (j : Int) ∧ (j : Int) < (n : Int) := by omega
      obtain ⟨d1, d2⟩ := hkz
      obtain ⟨d3, d4⟩ := hjz2
      have d5 : k < n ∧ j < n := by omega
      obtain ⟨d5, d6⟩ := d5
      have e1 : k * 3 ≠ j * 3 := by omega
      have e2 : k * 3 ≠ j * 3 + 1 := by omega
      have e3 : k * 3 ≠ j * 3 + 2 := by omega
      have e4 : k * 3 + 1 ≠ j * 3 := by omega
      have e5 : k * 3 + 1 ≠ j * 3 + 1 := by omega
      have e6 : k * 3 + 1 ≠ j * 3 + 2 := by omega
      have e7 : k * 3 + 2 ≠ j * 3 := by omega
      have e8 : k * 3 + 2 ≠ j * 3 + 1 := by omega
      have e9 : k * 3 + 2 ≠ j * 3 + 2 := by omega
      have e10 : ¬ k = j := by omega
      have wj : IntKind.i64.wrap ((j : Int) - 1) = (j : Int) - 1 := IntWalk.i64_in _ (by omega)
      have HJE := Lib.hid (show Value.int .i64 ((j : Int) - 1) = Value.int .i64 ((n : Int) - 1 - ((k + 1 : Nat) : Int)) by congr 1; omega)
      have HKE := Lib.hid (show Value.int .i64 ((k : Int) + 1) = Value.int .i64 ((k + 1 : Nat) : Int) by congr 1)
      clear hp hr S1 S2 hj hjz
      go_wp2_with fail
      go_region
      go_wp2_with fail
      exact ⟨⟨k + 1, ((ys.set k ⟨r1, r2, r3⟩).set j ⟨p1, p2, p3⟩), by omega, HKE.out, HJE.out, HN.out, HSD.out, grown_dr (grown_trans HG.out HS.out.2)⟩, by simp only [intOf]; omega⟩
    · have hkj : ¬ (k : Int) < (n : Int) - 1 - (k : Int) := by omega
      have HE := Lib.hid (revK_end HV.out (by rw [HL.out]; omega))
      go_wp2_with fail
      go_end0
      exact ⟨rfl, HE.out ▸ HO.out, HG.out⟩
end Go.Proofs.YtgjllminidlolaaGreatDoor

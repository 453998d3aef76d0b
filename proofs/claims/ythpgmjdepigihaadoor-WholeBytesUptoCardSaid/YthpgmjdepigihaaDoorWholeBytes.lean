/- WholeBytes: any voucher as bytes, and read again; any bytes, read: the law's walk. (Printed by mkwb.py.) -/
import Derived.Test.YthpgmjdepigihaaDoorZb
import Derived.Test.YthpgmjdepigihaaDoorZ6
import Derived.Test.YthpgmjdepigihaaDoorEr
import Derived.Test.YthpgmjdepigihaaDoorWholeAgain
namespace Go.Att
open Go.RowKit
def vchZ : Vch := ⟨[], [], 0, [], [], [], ([], [], []), ([], [], [])⟩
theorem vchZ_at (w : World) : VchAt w (.slice none 0 0) (.slice none 0 0) (.slice none 0 0) (.slice none 0 0) (.slice none 0 0) (.slice none 0 0) (.slice none 0 0) (.slice none 0 0) (.slice none 0 0) (.slice none 0 0) (.slice none 0 0) vchZ :=
  ⟨Ints.nil _, Ints.nil _, rws_nil _, Ints.nil _, Opns.nil _, ⟨Ints.nil _, rws_nil _, rws_nil _⟩, ⟨Ints.nil _, rws_nil _, rws_nil _⟩⟩
end Go.Att
namespace Go.Proofs.YthpgmjdepigihaaDoor
open Go.RowKit Go.Att
set_option maxRecDepth 100000 in
set_option maxHeartbeats 8000000 in
theorem wholeBytes_any (w : World) (m a r l o ra rb rc la lb lc : Value) (v : Vch) (bv : Value) (b : List Int) (hA : VchAt w m a r l o ra rb rc la lb lc v) (hV : VcV v) (hl : (encV v).length ≤ 4294967296) (hg : Hnd w) (hv : Byts w bv b) (hb : BytesIn b) (h32 : b.length ≤ 4294967296) :
    Calls Tryd.prog 3 #[.agg #[m, a, .int .i64 v.tries, r, l, o, ra, rb, rc, la, lb, lc], bv] w fun e w' => e = .returned (.bool true) ∧ Ext w w' := by
  obtain ⟨m1, m2, em⟩ := hA.main.shape
  have em : m = .slice m1 v.main.length m2 := em
  subst em
  obtain ⟨a1, a2, ea⟩ := hA.aux.shape
  have ea : a = .slice a1 v.aux.length a2 := ea
  subst ea
  obtain ⟨r1, r2, er⟩ := rws_shape (hA.roots)
  have er : r = .slice r1 v.roots.length r2 := er
  subst er
  obtain ⟨l1, l2, el⟩ := hA.last.shape
  have el : l = .slice l1 v.last.length l2 := el
  subst el
  obtain ⟨o1, o2, eo⟩ := opns_shape (hA.opens)
  have eo : o = .slice o1 v.opens.length o2 := eo
  subst eo
  obtain ⟨ra1, ra2, era⟩ := hA.rows.places.shape
  have era : ra = .slice ra1 v.rows.1.length ra2 := era
  subst era
  obtain ⟨rb1, rb2, erb⟩ := rws_shape (hA.rows.rows)
  have erb : rb = .slice rb1 v.rows.2.1.length rb2 := erb
  subst erb
  obtain ⟨rc1, rc2, erc⟩ := rws_shape (hA.rows.nodes)
  have erc : rc = .slice rc1 v.rows.2.2.length rc2 := erc
  subst erc
  obtain ⟨la1, la2, ela⟩ := hA.fin.places.shape
  have ela : la = .slice la1 v.fin.1.length la2 := ela
  subst ela
  obtain ⟨lb1, lb2, elb⟩ := rws_shape (hA.fin.rows)
  have elb : lb = .slice lb1 v.fin.2.1.length lb2 := elb
  subst elb
  obtain ⟨lc1, lc2, elc⟩ := rws_shape (hA.fin.nodes)
  have elc : lc = .slice lc1 v.fin.2.2.length lc2 := elc
  subst elc
  have hal := Ext.alloc w (Obj.cells #[.slice m1 v.main.length m2, .slice a1 v.aux.length a2, .int .i64 v.tries, .slice r1 v.roots.length r2, .slice l1 v.last.length l2, .slice o1 v.opens.length o2, .slice ra1 v.rows.1.length ra2, .slice rb1 v.rows.2.1.length rb2, .slice rc1 v.rows.2.2.length rc2, .slice la1 v.fin.1.length la2, .slice lb1 v.fin.2.1.length lb2, .slice lc1 v.fin.2.2.length lc2] 30)
  have HA := Lib.hid (hA.ext hal); have HX := Lib.hid hal
  have HC := Lib.hid (CellsAt.new w [.slice m1 v.main.length m2, .slice a1 v.aux.length a2, .int .i64 v.tries, .slice r1 v.roots.length r2, .slice l1 v.last.length l2, .slice o1 v.opens.length o2, .slice ra1 v.rows.1.length ra2, .slice rb1 v.rows.2.1.length rb2, .slice rc1 v.rows.2.2.length rc2, .slice la1 v.fin.1.length la2, .slice lb1 v.fin.2.1.length lb2, .slice lc1 v.fin.2.2.length lc2] 30)
  have HVB := Lib.hid (show Byts (w.alloc (Obj.cells #[.slice m1 v.main.length m2, .slice a1 v.aux.length a2, .int .i64 v.tries, .slice r1 v.roots.length r2, .slice l1 v.last.length l2, .slice o1 v.opens.length o2, .slice ra1 v.rows.1.length ra2, .slice rb1 v.rows.2.1.length rb2, .slice rc1 v.rows.2.2.length rc2, .slice la1 v.fin.1.length la2, .slice lb1 v.fin.2.1.length lb2, .slice lc1 v.fin.2.2.length lc2] 30)) bv b from Sl.ext hv hal)
  have hsz : w.heap.size < (w.alloc (Obj.cells #[.slice m1 v.main.length m2, .slice a1 v.aux.length a2, .int .i64 v.tries, .slice r1 v.roots.length r2, .slice l1 v.last.length l2, .slice o1 v.opens.length o2, .slice ra1 v.rows.1.length ra2, .slice rb1 v.rows.2.1.length rb2, .slice rc1 v.rows.2.2.length rc2, .slice la1 v.fin.1.length la2, .slice lb1 v.fin.2.1.length lb2, .slice lc1 v.fin.2.2.length lc2] 30)).heap.size := by simp
  have HSZ := Lib.hid hsz
  have HGH := Lib.hid (hg.ext hal)
  have HV := Lib.hid hV; have HL := Lib.hid hl; have HB := Lib.hid hb; have L := Lib.hid h32
  clear hA hal hv hg hV hl hb h32 hsz
  have hlen : (encV v).length ≤ 4294967296 := HL.out
  go_enter Tryd.func3, Tryd.ntmps3
  go_wp2_with fail
  generalize w.alloc (Obj.cells #[.slice m1 v.main.length m2, .slice a1 v.aux.length a2, .int .i64 v.tries, .slice r1 v.roots.length r2, .slice l1 v.last.length l2, .slice o1 v.opens.length o2, .slice ra1 v.rows.1.length ra2, .slice rb1 v.rows.2.1.length rb2, .slice rc1 v.rows.2.2.length rc2, .slice la1 v.fin.1.length la2, .slice lb1 v.fin.2.1.length lb2, .slice lc1 v.fin.2.2.length lc2] 30) = W0 at *
  (with_reducible refine (bytes_any HA.out HV.out HL.out).mono ?_)
  rintro e w1 ⟨x1, rfl, hx1, hb1⟩
  have hb1' : Byts w1 x1 (encV v) := hb1
  have HB1 := Lib.hid hb1'
  have HX1 := Lib.hid hx1
  have hl1 := Sl.run_len (P := Tryd.prog) hb1' slByts
  have hd := HC.out.ext hx1 (by simp)
  have k0 := hd.at_ 0 (by first | decide | simp)
  have k1 := hd.at_ 1 (by first | decide | simp)
  have k2 := hd.at_ 2 (by first | decide | simp)
  have k3 := hd.at_ 3 (by first | decide | simp)
  have k4 := hd.at_ 4 (by first | decide | simp)
  have k5 := hd.at_ 5 (by first | decide | simp)
  have k6 := hd.at_ 6 (by first | decide | simp)
  have k7 := hd.at_ 7 (by first | decide | simp)
  have k8 := hd.at_ 8 (by first | decide | simp)
  have k9 := hd.at_ 9 (by first | decide | simp)
  have k10 := hd.at_ 10 (by first | decide | simp)
  have k11 := hd.at_ 11 (by first | decide | simp)
  simp only [List.getElem_cons_zero, List.getElem_cons_succ] at k0 k1 k2 k3 k4 k5 k6 k7 k8 k9 k10 k11
  clear hb1 hb1' hx1 hd
  go_wp2_with fail
  clear k0 k1 k2 k3 k4 k5 k6 k7 k8 k9 k10 k11
  (with_reducible refine (dbytes_any (HA.out.ext HX1.out) HL.out).mono ?_)
  rintro e w2 ⟨x2, rfl, hx2, hb2⟩
  have hb2' : Byts w2 x2 (encV v) := hb2
  have HB2 := Lib.hid hb2'
  have HX2 := Lib.hid hx2
  have HB12 := Lib.hid (HB1.out.ext hx2)
  have hl2 := Sl.run_len (P := Tryd.prog) hb2' slByts
  clear hb2 hb2' hx2
  have HBS := Lib.hid (show rdV (encV v) = some (v, []) by have := rdV_forth v [] HV.out; rwa [List.append_nil] at this)
  have HBI := Lib.hid (encV_in v)
  generalize encV v = bs at *
  go_wp2_with fail
  go_loopw [7, 8] (fun x7 x8 wr => ∃ i k : Nat, i ≤ bs.length ∧ x7 = .bool true ∧ x8 = .int .i64 i ∧ wr = w2.drewN k) (fun _ x8 _ => bs.length - (intOf x8).toNat)
  case atStart => exact ⟨0, 0, Nat.zero_le _, by simp, rfl, rfl⟩
  case round =>
    obtain ⟨i, k, hi, rfl, rfl, rfl⟩ := hrel
    by_cases hil : i < bs.length
    · have hix := HB12.out.run_index (P := Tryd.prog) slByts i hil
      have hc := HB12.out.cell i hil
      have hix2 := HB2.out.run_index (P := Tryd.prog) slByts i hil
      have hc2 := HB2.out.cell i hil
      have hbb : (nth bs i == nth bs i) = true := by simp
      go_wp2_with fail
      go_quiet (fail)
      go_wp2_with fail
      go_roundw
      case rel => exact ⟨i + 1, _, by omega, rfl, by go_num, rfl⟩
      case measure => simp [intOf]; omega
    · obtain rfl : i = bs.length := by omega
      go_wp2_with fail
      (with_reducible refine (read_any (HB12.out.ext (Ext.drewN _ k)) HBI.out HL.out).mono ?_)
      rintro e w3 (⟨vch, hr, ym, ya, yr, yl, yo, yra, yrb, yrc, yla, ylb, ylc, he, hA3, -, hx3⟩ | ⟨hn, -, -⟩)
      rotate_left
      · exact absurd HBS.out (hn v)
      rw [HBS.out] at hr
      obtain rfl : v = vch := by simpa using hr
      clear hr
      obtain ⟨ym1, ym2, eym⟩ := hA3.main.shape
      have eym : ym = .slice ym1 v.main.length ym2 := eym
      subst eym
      obtain ⟨ya1, ya2, eya⟩ := hA3.aux.shape
      have eya : ya = .slice ya1 v.aux.length ya2 := eya
      subst eya
      obtain ⟨yr1, yr2, eyr⟩ := rws_shape (hA3.roots)
      have eyr : yr = .slice yr1 v.roots.length yr2 := eyr
      subst eyr
      obtain ⟨yl1, yl2, eyl⟩ := hA3.last.shape
      have eyl : yl = .slice yl1 v.last.length yl2 := eyl
      subst eyl
      obtain ⟨yo1, yo2, eyo⟩ := opns_shape (hA3.opens)
      have eyo : yo = .slice yo1 v.opens.length yo2 := eyo
      subst eyo
      obtain ⟨yra1, yra2, eyra⟩ := hA3.rows.places.shape
      have eyra : yra = .slice yra1 v.rows.1.length yra2 := eyra
      subst eyra
      obtain ⟨yrb1, yrb2, eyrb⟩ := rws_shape (hA3.rows.rows)
      have eyrb : yrb = .slice yrb1 v.rows.2.1.length yrb2 := eyrb
      subst eyrb
      obtain ⟨yrc1, yrc2, eyrc⟩ := rws_shape (hA3.rows.nodes)
      have eyrc : yrc = .slice yrc1 v.rows.2.2.length yrc2 := eyrc
      subst eyrc
      obtain ⟨yla1, yla2, eyla⟩ := hA3.fin.places.shape
      have eyla : yla = .slice yla1 v.fin.1.length yla2 := eyla
      subst eyla
      obtain ⟨ylb1, ylb2, eylb⟩ := rws_shape (hA3.fin.rows)
      have eylb : ylb = .slice ylb1 v.fin.2.1.length ylb2 := eylb
      subst eylb
      obtain ⟨ylc1, ylc2, eylc⟩ := rws_shape (hA3.fin.nodes)
      have eylc : ylc = .slice ylc1 v.fin.2.2.length ylc2 := eylc
      subst eylc
      subst he
      have hx03 := (HX2.out.trans (Ext.drewN _ k)).trans hx3
      have hx3 := HX1.out.trans hx03
      have hal3 := Ext.alloc w3 (Obj.cells #[.slice ym1 v.main.length ym2, .slice ya1 v.aux.length ya2, .int .i64 v.tries, .slice yr1 v.roots.length yr2, .slice yl1 v.last.length yl2, .slice yo1 v.opens.length yo2, .slice yra1 v.rows.1.length yra2, .slice yrb1 v.rows.2.1.length yrb2, .slice yrc1 v.rows.2.2.length yrc2, .slice yla1 v.fin.1.length yla2, .slice ylb1 v.fin.2.1.length ylb2, .slice ylc1 v.fin.2.2.length ylc2] 30)
      have HC3 := Lib.hid (CellsAt.new w3 [.slice ym1 v.main.length ym2, .slice ya1 v.aux.length ya2, .int .i64 v.tries, .slice yr1 v.roots.length yr2, .slice yl1 v.last.length yl2, .slice yo1 v.opens.length yo2, .slice yra1 v.rows.1.length yra2, .slice yrb1 v.rows.2.1.length yrb2, .slice yrc1 v.rows.2.2.length yrc2, .slice yla1 v.fin.1.length yla2, .slice ylb1 v.fin.2.1.length ylb2, .slice ylc1 v.fin.2.2.length ylc2] 30)
      have HCV := Lib.hid ((HC.out.ext hx3 (by simp)).ext hal3 (by simp))
      have HX3 := Lib.hid (hx3.trans hal3)
      have HA3 := Lib.hid (hA3.ext hal3)
      have HS3 := Lib.hid (Nat.lt_of_lt_of_le HSZ.out hx3.size)
      have HS0 := Lib.hid hx3.size
      have k0 := HCV.out.at_ 0 (by first | decide | simp)
      have k1 := HCV.out.at_ 1 (by first | decide | simp)
      have k2 := HCV.out.at_ 2 (by first | decide | simp)
      have k3 := HCV.out.at_ 3 (by first | decide | simp)
      have k4 := HCV.out.at_ 4 (by first | decide | simp)
      have k5 := HCV.out.at_ 5 (by first | decide | simp)
      have k6 := HCV.out.at_ 6 (by first | decide | simp)
      have k7 := HCV.out.at_ 7 (by first | decide | simp)
      have k8 := HCV.out.at_ 8 (by first | decide | simp)
      have k9 := HCV.out.at_ 9 (by first | decide | simp)
      have k10 := HCV.out.at_ 10 (by first | decide | simp)
      have k11 := HCV.out.at_ 11 (by first | decide | simp)
      simp only [List.getElem_cons_zero, List.getElem_cons_succ] at k0 k1 k2 k3 k4 k5 k6 k7 k8 k9 k10 k11
      clear hA3 hx03 hx3 hal3 hl1 hl2
      have hsv := svB_refl v
      have HSV := Lib.hid hsv
      clear hsv
      go_wp2_with fail
      clear k0 k1 k2 k3 k4 k5 k6 k7 k8 k9 k10 k11
      generalize hw4 : w3.alloc (Obj.cells #[.slice ym1 v.main.length ym2, .slice ya1 v.aux.length ya2, .int .i64 v.tries, .slice yr1 v.roots.length yr2, .slice yl1 v.last.length yl2, .slice yo1 v.opens.length yo2, .slice yra1 v.rows.1.length yra2, .slice yrb1 v.rows.2.1.length yrb2, .slice yrc1 v.rows.2.2.length yrc2, .slice yla1 v.fin.1.length yla2, .slice ylb1 v.fin.2.1.length ylb2, .slice ylc1 v.fin.2.2.length ylc2] 30) = w4 at *
      (with_reducible refine (svch_any HA3.out (HA.out.ext HX3.out)).mono ?_)
      rintro e w5 ⟨he, hx5⟩
      rw [HSV.out] at he
      subst he
      have HX5 := Lib.hid (HX3.out.trans hx5)
      have HC5 := Lib.hid (HC3.out.ext hx5 (by simp))
      have HS5 := Lib.hid hx5.size
      have HW4 := Lib.hid (show w4.heap.size = w3.heap.size + 1 by rw [← hw4]; simp)
      clear hx5 hw4
      go_wp2_with fail
      (with_reducible refine (read_any (HVB.out.ext HX5.out) HB.out L.out).mono ?_)
      rintro e w6 (⟨vch, hr, zm, za, zr, zl, zo, zra, zrb, zrc, zla, zlb, zlc, he, hA6, hst, hx6⟩ | ⟨hn, he, hx6⟩)
      · have HR := Lib.hid hr
        clear hr
        obtain ⟨zm1, zm2, ezm⟩ := hA6.main.shape
        have ezm : zm = .slice zm1 vch.main.length zm2 := ezm
        subst ezm
        obtain ⟨za1, za2, eza⟩ := hA6.aux.shape
        have eza : za = .slice za1 vch.aux.length za2 := eza
        subst eza
        obtain ⟨zr1, zr2, ezr⟩ := rws_shape (hA6.roots)
        have ezr : zr = .slice zr1 vch.roots.length zr2 := ezr
        subst ezr
        obtain ⟨zl1, zl2, ezl⟩ := hA6.last.shape
        have ezl : zl = .slice zl1 vch.last.length zl2 := ezl
        subst ezl
        obtain ⟨zo1, zo2, ezo⟩ := opns_shape (hA6.opens)
        have ezo : zo = .slice zo1 vch.opens.length zo2 := ezo
        subst ezo
        obtain ⟨zra1, zra2, ezra⟩ := hA6.rows.places.shape
        have ezra : zra = .slice zra1 vch.rows.1.length zra2 := ezra
        subst ezra
        obtain ⟨zrb1, zrb2, ezrb⟩ := rws_shape (hA6.rows.rows)
        have ezrb : zrb = .slice zrb1 vch.rows.2.1.length zrb2 := ezrb
        subst ezrb
        obtain ⟨zrc1, zrc2, ezrc⟩ := rws_shape (hA6.rows.nodes)
        have ezrc : zrc = .slice zrc1 vch.rows.2.2.length zrc2 := ezrc
        subst ezrc
        obtain ⟨zla1, zla2, ezla⟩ := hA6.fin.places.shape
        have ezla : zla = .slice zla1 vch.fin.1.length zla2 := ezla
        subst ezla
        obtain ⟨zlb1, zlb2, ezlb⟩ := rws_shape (hA6.fin.rows)
        have ezlb : zlb = .slice zlb1 vch.fin.2.1.length zlb2 := ezlb
        subst ezlb
        obtain ⟨zlc1, zlc2, ezlc⟩ := rws_shape (hA6.fin.nodes)
        have ezlc : zlc = .slice zlc1 vch.fin.2.2.length zlc2 := ezlc
        subst ezlc
        subst he
        have hd := HC5.out.ext hx6 (by simp)
        have k0 := hd.at_ 0 (by first | decide | simp)
        have kf0 := hd.fr 0 (by first | decide | simp)
        have k1 := hd.at_ 1 (by first | decide | simp)
        have kf1 := hd.fr 1 (by first | decide | simp)
        have k2 := hd.at_ 2 (by first | decide | simp)
        have kf2 := hd.fr 2 (by first | decide | simp)
        have k3 := hd.at_ 3 (by first | decide | simp)
        have kf3 := hd.fr 3 (by first | decide | simp)
        have k4 := hd.at_ 4 (by first | decide | simp)
        have kf4 := hd.fr 4 (by first | decide | simp)
        have k5 := hd.at_ 5 (by first | decide | simp)
        have kf5 := hd.fr 5 (by first | decide | simp)
        have k6 := hd.at_ 6 (by first | decide | simp)
        have kf6 := hd.fr 6 (by first | decide | simp)
        have k7 := hd.at_ 7 (by first | decide | simp)
        have kf7 := hd.fr 7 (by first | decide | simp)
        have k8 := hd.at_ 8 (by first | decide | simp)
        have kf8 := hd.fr 8 (by first | decide | simp)
        have k9 := hd.at_ 9 (by first | decide | simp)
        have kf9 := hd.fr 9 (by first | decide | simp)
        have k10 := hd.at_ 10 (by first | decide | simp)
        have kf10 := hd.fr 10 (by first | decide | simp)
        have k11 := hd.at_ 11 (by first | decide | simp)
        have kf11 := hd.fr 11 (by first | decide | simp)
        simp only [List.getElem_cons_zero, List.getElem_cons_succ] at k0 k1 k2 k3 k4 k5 k6 k7 k8 k9 k10 k11
        have gz : w6.grownBy ((((((((((((w6.setCell ⟨w3.heap.size, 0, none⟩ (.slice zm1 vch.main.length zm2)).setCell ⟨w3.heap.size, 1, none⟩ (.slice za1 vch.aux.length za2)).setCell ⟨w3.heap.size, 2, none⟩ (.int .i64 vch.tries)).setCell ⟨w3.heap.size, 3, none⟩ (.slice zr1 vch.roots.length zr2)).setCell ⟨w3.heap.size, 4, none⟩ (.slice zl1 vch.last.length zl2)).setCell ⟨w3.heap.size, 5, none⟩ (.slice zo1 vch.opens.length zo2)).setCell ⟨w3.heap.size, 6, none⟩ (.slice zra1 vch.rows.1.length zra2)).setCell ⟨w3.heap.size, 7, none⟩ (.slice zrb1 vch.rows.2.1.length zrb2)).setCell ⟨w3.heap.size, 8, none⟩ (.slice zrc1 vch.rows.2.2.length zrc2)).setCell ⟨w3.heap.size, 9, none⟩ (.slice zla1 vch.fin.1.length zla2)).setCell ⟨w3.heap.size, 10, none⟩ (.slice zlb1 vch.fin.2.1.length zlb2)).setCell ⟨w3.heap.size, 11, none⟩ (.slice zlc1 vch.fin.2.2.length zlc2)) (some w3.heap.size) := (grown_same (grown_same (grown_same (grown_same (grown_same (grown_same (grown_same (grown_same (grown_same (grown_same (grown_same (setCell_grown _ _ _ _) (setCell_grown _ _ _ _)) (setCell_grown _ _ _ _)) (setCell_grown _ _ _ _)) (setCell_grown _ _ _ _)) (setCell_grown _ _ _ _)) (setCell_grown _ _ _ _)) (setCell_grown _ _ _ _)) (setCell_grown _ _ _ _)) (setCell_grown _ _ _ _)) (setCell_grown _ _ _ _)) (setCell_grown _ _ _ _))
        have HZ := Lib.hid (show CellsAt ((((((((((((w6.setCell ⟨w3.heap.size, 0, none⟩ (.slice zm1 vch.main.length zm2)).setCell ⟨w3.heap.size, 1, none⟩ (.slice za1 vch.aux.length za2)).setCell ⟨w3.heap.size, 2, none⟩ (.int .i64 vch.tries)).setCell ⟨w3.heap.size, 3, none⟩ (.slice zr1 vch.roots.length zr2)).setCell ⟨w3.heap.size, 4, none⟩ (.slice zl1 vch.last.length zl2)).setCell ⟨w3.heap.size, 5, none⟩ (.slice zo1 vch.opens.length zo2)).setCell ⟨w3.heap.size, 6, none⟩ (.slice zra1 vch.rows.1.length zra2)).setCell ⟨w3.heap.size, 7, none⟩ (.slice zrb1 vch.rows.2.1.length zrb2)).setCell ⟨w3.heap.size, 8, none⟩ (.slice zrc1 vch.rows.2.2.length zrc2)).setCell ⟨w3.heap.size, 9, none⟩ (.slice zla1 vch.fin.1.length zla2)).setCell ⟨w3.heap.size, 10, none⟩ (.slice zlb1 vch.fin.2.1.length zlb2)).setCell ⟨w3.heap.size, 11, none⟩ (.slice zlc1 vch.fin.2.2.length zlc2)) w3.heap.size [.slice zm1 vch.main.length zm2, .slice za1 vch.aux.length za2, .int .i64 vch.tries, .slice zr1 vch.roots.length zr2, .slice zl1 vch.last.length zl2, .slice zo1 vch.opens.length zo2, .slice zra1 vch.rows.1.length zra2, .slice zrb1 vch.rows.2.1.length zrb2, .slice zrc1 vch.rows.2.2.length zrc2, .slice zla1 vch.fin.1.length zla2, .slice zlb1 vch.fin.2.1.length zlb2, .slice zlc1 vch.fin.2.2.length zlc2] from ((((((((((((hd.set 0 (by (try simp only [List.length_set]); first | decide | simp) (.slice zm1 vch.main.length zm2)).set 1 (by (try simp only [List.length_set]); first | decide | simp) (.slice za1 vch.aux.length za2)).set 2 (by (try simp only [List.length_set]); first | decide | simp) (.int .i64 vch.tries)).set 3 (by (try simp only [List.length_set]); first | decide | simp) (.slice zr1 vch.roots.length zr2)).set 4 (by (try simp only [List.length_set]); first | decide | simp) (.slice zl1 vch.last.length zl2)).set 5 (by (try simp only [List.length_set]); first | decide | simp) (.slice zo1 vch.opens.length zo2)).set 6 (by (try simp only [List.length_set]); first | decide | simp) (.slice zra1 vch.rows.1.length zra2)).set 7 (by (try simp only [List.length_set]); first | decide | simp) (.slice zrb1 vch.rows.2.1.length zrb2)).set 8 (by (try simp only [List.length_set]); first | decide | simp) (.slice zrc1 vch.rows.2.2.length zrc2)).set 9 (by (try simp only [List.length_set]); first | decide | simp) (.slice zla1 vch.fin.1.length zla2)).set 10 (by (try simp only [List.length_set]); first | decide | simp) (.slice zlb1 vch.fin.2.1.length zlb2)).set 11 (by (try simp only [List.length_set]); first | decide | simp) (.slice zlc1 vch.fin.2.2.length zlc2)))
        have hxw : Ext W0 ((((((((((((w6.setCell ⟨w3.heap.size, 0, none⟩ (.slice zm1 vch.main.length zm2)).setCell ⟨w3.heap.size, 1, none⟩ (.slice za1 vch.aux.length za2)).setCell ⟨w3.heap.size, 2, none⟩ (.int .i64 vch.tries)).setCell ⟨w3.heap.size, 3, none⟩ (.slice zr1 vch.roots.length zr2)).setCell ⟨w3.heap.size, 4, none⟩ (.slice zl1 vch.last.length zl2)).setCell ⟨w3.heap.size, 5, none⟩ (.slice zo1 vch.opens.length zo2)).setCell ⟨w3.heap.size, 6, none⟩ (.slice zra1 vch.rows.1.length zra2)).setCell ⟨w3.heap.size, 7, none⟩ (.slice zrb1 vch.rows.2.1.length zrb2)).setCell ⟨w3.heap.size, 8, none⟩ (.slice zrc1 vch.rows.2.2.length zrc2)).setCell ⟨w3.heap.size, 9, none⟩ (.slice zla1 vch.fin.1.length zla2)).setCell ⟨w3.heap.size, 10, none⟩ (.slice zlb1 vch.fin.2.1.length zlb2)).setCell ⟨w3.heap.size, 11, none⟩ (.slice zlc1 vch.fin.2.2.length zlc2)) := Below.grown (HX5.out.trans hx6) gz (HX5.out.trans hx6).size (fun k hk => by have := Option.some.inj hk; have := HS0.out; omega)
        have HXW := Lib.hid hxw
        have HVA := Lib.hid (hst _ _ gz (by have := HS5.out; have := HW4.out; omega))
        clear hd gz hxw hx6 hA6 hst
        go_wp2_with fail
        clear k0 k1 k2 k3 k4 k5 k6 k7 k8 k9 k10 k11 kf0 kf1 kf2 kf3 kf4 kf5 kf6 kf7 kf8 kf9 kf10 kf11
        generalize ((((((((((((w6.setCell ⟨w3.heap.size, 0, none⟩ (.slice zm1 vch.main.length zm2)).setCell ⟨w3.heap.size, 1, none⟩ (.slice za1 vch.aux.length za2)).setCell ⟨w3.heap.size, 2, none⟩ (.int .i64 vch.tries)).setCell ⟨w3.heap.size, 3, none⟩ (.slice zr1 vch.roots.length zr2)).setCell ⟨w3.heap.size, 4, none⟩ (.slice zl1 vch.last.length zl2)).setCell ⟨w3.heap.size, 5, none⟩ (.slice zo1 vch.opens.length zo2)).setCell ⟨w3.heap.size, 6, none⟩ (.slice zra1 vch.rows.1.length zra2)).setCell ⟨w3.heap.size, 7, none⟩ (.slice zrb1 vch.rows.2.1.length zrb2)).setCell ⟨w3.heap.size, 8, none⟩ (.slice zrc1 vch.rows.2.2.length zrc2)).setCell ⟨w3.heap.size, 9, none⟩ (.slice zla1 vch.fin.1.length zla2)).setCell ⟨w3.heap.size, 10, none⟩ (.slice zlb1 vch.fin.2.1.length zlb2)).setCell ⟨w3.heap.size, 11, none⟩ (.slice zlc1 vch.fin.2.2.length zlc2)) = W6 at *
        (with_reducible refine (dread_any (HVB.out.ext HXW.out) HB.out L.out).mono ?_)
        rintro e w7 (⟨vch2, hr2, um, ua, ur, ul, uo, ura, urb, urc, ula, ulb, ulc, he, hA7, hx7⟩ | ⟨hn, -, -⟩)
        rotate_left
        · exact absurd HR.out (hn vch)
        rw [HR.out] at hr2
        obtain rfl : vch = vch2 := by simpa using hr2
        clear hr2
        obtain ⟨um1, um2, eum⟩ := hA7.main.shape
        have eum : um = .slice um1 vch.main.length um2 := eum
        subst eum
        obtain ⟨ua1, ua2, eua⟩ := hA7.aux.shape
        have eua : ua = .slice ua1 vch.aux.length ua2 := eua
        subst eua
        obtain ⟨ur1, ur2, eur⟩ := rws_shape (hA7.roots)
        have eur : ur = .slice ur1 vch.roots.length ur2 := eur
        subst eur
        obtain ⟨ul1, ul2, eul⟩ := hA7.last.shape
        have eul : ul = .slice ul1 vch.last.length ul2 := eul
        subst eul
        obtain ⟨uo1, uo2, euo⟩ := opns_shape (hA7.opens)
        have euo : uo = .slice uo1 vch.opens.length uo2 := euo
        subst euo
        obtain ⟨ura1, ura2, eura⟩ := hA7.rows.places.shape
        have eura : ura = .slice ura1 vch.rows.1.length ura2 := eura
        subst eura
        obtain ⟨urb1, urb2, eurb⟩ := rws_shape (hA7.rows.rows)
        have eurb : urb = .slice urb1 vch.rows.2.1.length urb2 := eurb
        subst eurb
        obtain ⟨urc1, urc2, eurc⟩ := rws_shape (hA7.rows.nodes)
        have eurc : urc = .slice urc1 vch.rows.2.2.length urc2 := eurc
        subst eurc
        obtain ⟨ula1, ula2, eula⟩ := hA7.fin.places.shape
        have eula : ula = .slice ula1 vch.fin.1.length ula2 := eula
        subst eula
        obtain ⟨ulb1, ulb2, eulb⟩ := rws_shape (hA7.fin.rows)
        have eulb : ulb = .slice ulb1 vch.fin.2.1.length ulb2 := eulb
        subst eulb
        obtain ⟨ulc1, ulc2, eulc⟩ := rws_shape (hA7.fin.nodes)
        have eulc : ulc = .slice ulc1 vch.fin.2.2.length ulc2 := eulc
        subst eulc
        subst he
        have hal7 := Ext.alloc w7 (Obj.cells #[.slice um1 vch.main.length um2, .slice ua1 vch.aux.length ua2, .int .i64 vch.tries, .slice ur1 vch.roots.length ur2, .slice ul1 vch.last.length ul2, .slice uo1 vch.opens.length uo2, .slice ura1 vch.rows.1.length ura2, .slice urb1 vch.rows.2.1.length urb2, .slice urc1 vch.rows.2.2.length urc2, .slice ula1 vch.fin.1.length ula2, .slice ulb1 vch.fin.2.1.length ulb2, .slice ulc1 vch.fin.2.2.length ulc2] 30)
        have HU := Lib.hid (CellsAt.new w7 [.slice um1 vch.main.length um2, .slice ua1 vch.aux.length ua2, .int .i64 vch.tries, .slice ur1 vch.roots.length ur2, .slice ul1 vch.last.length ul2, .slice uo1 vch.opens.length uo2, .slice ura1 vch.rows.1.length ura2, .slice urb1 vch.rows.2.1.length urb2, .slice urc1 vch.rows.2.2.length urc2, .slice ula1 vch.fin.1.length ula2, .slice ulb1 vch.fin.2.1.length ulb2, .slice ulc1 vch.fin.2.2.length ulc2] 30)
        have HZ7 := Lib.hid ((HZ.out.ext hx7 (by simp)).ext hal7 (by simp))
        have HVA7 := Lib.hid ((HVA.out.ext hx7).ext hal7)
        have HUA := Lib.hid (hA7.ext hal7)
        have HX7 := Lib.hid ((HXW.out.trans hx7).trans hal7)
        have C := error_any 0 0 _ (HGH.out.ext HX7.out)
        rw [errv_zero] at C
        clear hx7 hal7 hA7
        go_wp2_with fail
        generalize w7.alloc (Obj.cells #[.slice um1 vch.main.length um2, .slice ua1 vch.aux.length ua2, .int .i64 vch.tries, .slice ur1 vch.roots.length ur2, .slice ul1 vch.last.length ul2, .slice uo1 vch.opens.length uo2, .slice ura1 vch.rows.1.length ura2, .slice urb1 vch.rows.2.1.length urb2, .slice urc1 vch.rows.2.2.length urc2, .slice ula1 vch.fin.1.length ula2, .slice ulb1 vch.fin.2.1.length ulb2, .slice ulc1 vch.fin.2.2.length ulc2] 30) = w8 at *
        (with_reducible refine C.mono ?_)
        rintro e w9 ⟨he, hx9⟩
        rw [show ((0 : Int) == 0) = true from rfl] at he
        subst he
        clear C
        have HU9 := Lib.hid (HU.out.ext hx9 (by simp)); have HZ9 := Lib.hid (HZ7.out.ext hx9 (by simp))
        have HX9 := Lib.hid (HX7.out.trans hx9)
        have C := svch_any (HVA7.out.ext hx9) (HUA.out.ext hx9)
        rw [svB_refl] at C
        have k0 := HU9.out.at_ 0 (by first | decide | simp)
        have k1 := HU9.out.at_ 1 (by first | decide | simp)
        have k2 := HU9.out.at_ 2 (by first | decide | simp)
        have k3 := HU9.out.at_ 3 (by first | decide | simp)
        have k4 := HU9.out.at_ 4 (by first | decide | simp)
        have k5 := HU9.out.at_ 5 (by first | decide | simp)
        have k6 := HU9.out.at_ 6 (by first | decide | simp)
        have k7 := HU9.out.at_ 7 (by first | decide | simp)
        have k8 := HU9.out.at_ 8 (by first | decide | simp)
        have k9 := HU9.out.at_ 9 (by first | decide | simp)
        have k10 := HU9.out.at_ 10 (by first | decide | simp)
        have k11 := HU9.out.at_ 11 (by first | decide | simp)
        simp only [List.getElem_cons_zero, List.getElem_cons_succ] at k0 k1 k2 k3 k4 k5 k6 k7 k8 k9 k10 k11
        have j0 := HZ9.out.at_ 0 (by first | decide | simp)
        have j1 := HZ9.out.at_ 1 (by first | decide | simp)
        have j2 := HZ9.out.at_ 2 (by first | decide | simp)
        have j3 := HZ9.out.at_ 3 (by first | decide | simp)
        have j4 := HZ9.out.at_ 4 (by first | decide | simp)
        have j5 := HZ9.out.at_ 5 (by first | decide | simp)
        have j6 := HZ9.out.at_ 6 (by first | decide | simp)
        have j7 := HZ9.out.at_ 7 (by first | decide | simp)
        have j8 := HZ9.out.at_ 8 (by first | decide | simp)
        have j9 := HZ9.out.at_ 9 (by first | decide | simp)
        have j10 := HZ9.out.at_ 10 (by first | decide | simp)
        have j11 := HZ9.out.at_ 11 (by first | decide | simp)
        simp only [List.getElem_cons_zero, List.getElem_cons_succ] at j0 j1 j2 j3 j4 j5 j6 j7 j8 j9 j10 j11
        clear hx9
        go_wp2_with fail
        clear k0 k1 k2 k3 k4 k5 k6 k7 k8 k9 k10 k11
        clear j0 j1 j2 j3 j4 j5 j6 j7 j8 j9 j10 j11
        (with_reducible refine C.mono ?_)
        rintro e wa ⟨rfl, hxa⟩
        clear C
        have HXA := Lib.hid ((HX.out.trans HX9.out).trans hxa)
        clear hxa
        go_wp2_with fail
        go_ret
        exact ⟨rfl, HXA.out⟩
      · have HN := Lib.hid hn
        clear hn
        have he : e = .returned (.tuple #[.agg #[.slice none 0 0, .slice none 0 0, .int .i64 0, .slice none 0 0, .slice none 0 0, .slice none 0 0, .slice none 0 0, .slice none 0 0, .slice none 0 0, .slice none 0 0, .slice none 0 0, .slice none 0 0], .iface 100 (.int .i64 5)]) := he
        subst he
        have hd := HC5.out.ext hx6 (by simp)
        have k0 := hd.at_ 0 (by first | decide | simp)
        have kf0 := hd.fr 0 (by first | decide | simp)
        have k1 := hd.at_ 1 (by first | decide | simp)
        have kf1 := hd.fr 1 (by first | decide | simp)
        have k2 := hd.at_ 2 (by first | decide | simp)
        have kf2 := hd.fr 2 (by first | decide | simp)
        have k3 := hd.at_ 3 (by first | decide | simp)
        have kf3 := hd.fr 3 (by first | decide | simp)
        have k4 := hd.at_ 4 (by first | decide | simp)
        have kf4 := hd.fr 4 (by first | decide | simp)
        have k5 := hd.at_ 5 (by first | decide | simp)
        have kf5 := hd.fr 5 (by first | decide | simp)
        have k6 := hd.at_ 6 (by first | decide | simp)
        have kf6 := hd.fr 6 (by first | decide | simp)
        have k7 := hd.at_ 7 (by first | decide | simp)
        have kf7 := hd.fr 7 (by first | decide | simp)
        have k8 := hd.at_ 8 (by first | decide | simp)
        have kf8 := hd.fr 8 (by first | decide | simp)
        have k9 := hd.at_ 9 (by first | decide | simp)
        have kf9 := hd.fr 9 (by first | decide | simp)
        have k10 := hd.at_ 10 (by first | decide | simp)
        have kf10 := hd.fr 10 (by first | decide | simp)
        have k11 := hd.at_ 11 (by first | decide | simp)
        have kf11 := hd.fr 11 (by first | decide | simp)
        simp only [List.getElem_cons_zero, List.getElem_cons_succ] at k0 k1 k2 k3 k4 k5 k6 k7 k8 k9 k10 k11
        have gz : w6.grownBy ((((((((((((w6.setCell ⟨w3.heap.size, 0, none⟩ (.slice none 0 0)).setCell ⟨w3.heap.size, 1, none⟩ (.slice none 0 0)).setCell ⟨w3.heap.size, 2, none⟩ (.int .i64 0)).setCell ⟨w3.heap.size, 3, none⟩ (.slice none 0 0)).setCell ⟨w3.heap.size, 4, none⟩ (.slice none 0 0)).setCell ⟨w3.heap.size, 5, none⟩ (.slice none 0 0)).setCell ⟨w3.heap.size, 6, none⟩ (.slice none 0 0)).setCell ⟨w3.heap.size, 7, none⟩ (.slice none 0 0)).setCell ⟨w3.heap.size, 8, none⟩ (.slice none 0 0)).setCell ⟨w3.heap.size, 9, none⟩ (.slice none 0 0)).setCell ⟨w3.heap.size, 10, none⟩ (.slice none 0 0)).setCell ⟨w3.heap.size, 11, none⟩ (.slice none 0 0)) (some w3.heap.size) := (grown_same (grown_same (grown_same (grown_same (grown_same (grown_same (grown_same (grown_same (grown_same (grown_same (grown_same (setCell_grown _ _ _ _) (setCell_grown _ _ _ _)) (setCell_grown _ _ _ _)) (setCell_grown _ _ _ _)) (setCell_grown _ _ _ _)) (setCell_grown _ _ _ _)) (setCell_grown _ _ _ _)) (setCell_grown _ _ _ _)) (setCell_grown _ _ _ _)) (setCell_grown _ _ _ _)) (setCell_grown _ _ _ _)) (setCell_grown _ _ _ _))
        have HZ := Lib.hid (show CellsAt ((((((((((((w6.setCell ⟨w3.heap.size, 0, none⟩ (.slice none 0 0)).setCell ⟨w3.heap.size, 1, none⟩ (.slice none 0 0)).setCell ⟨w3.heap.size, 2, none⟩ (.int .i64 0)).setCell ⟨w3.heap.size, 3, none⟩ (.slice none 0 0)).setCell ⟨w3.heap.size, 4, none⟩ (.slice none 0 0)).setCell ⟨w3.heap.size, 5, none⟩ (.slice none 0 0)).setCell ⟨w3.heap.size, 6, none⟩ (.slice none 0 0)).setCell ⟨w3.heap.size, 7, none⟩ (.slice none 0 0)).setCell ⟨w3.heap.size, 8, none⟩ (.slice none 0 0)).setCell ⟨w3.heap.size, 9, none⟩ (.slice none 0 0)).setCell ⟨w3.heap.size, 10, none⟩ (.slice none 0 0)).setCell ⟨w3.heap.size, 11, none⟩ (.slice none 0 0)) w3.heap.size [.slice none 0 0, .slice none 0 0, .int .i64 0, .slice none 0 0, .slice none 0 0, .slice none 0 0, .slice none 0 0, .slice none 0 0, .slice none 0 0, .slice none 0 0, .slice none 0 0, .slice none 0 0] from ((((((((((((hd.set 0 (by (try simp only [List.length_set]); first | decide | simp) (.slice none 0 0)).set 1 (by (try simp only [List.length_set]); first | decide | simp) (.slice none 0 0)).set 2 (by (try simp only [List.length_set]); first | decide | simp) (.int .i64 0)).set 3 (by (try simp only [List.length_set]); first | decide | simp) (.slice none 0 0)).set 4 (by (try simp only [List.length_set]); first | decide | simp) (.slice none 0 0)).set 5 (by (try simp only [List.length_set]); first | decide | simp) (.slice none 0 0)).set 6 (by (try simp only [List.length_set]); first | decide | simp) (.slice none 0 0)).set 7 (by (try simp only [List.length_set]); first | decide | simp) (.slice none 0 0)).set 8 (by (try simp only [List.length_set]); first | decide | simp) (.slice none 0 0)).set 9 (by (try simp only [List.length_set]); first | decide | simp) (.slice none 0 0)).set 10 (by (try simp only [List.length_set]); first | decide | simp) (.slice none 0 0)).set 11 (by (try simp only [List.length_set]); first | decide | simp) (.slice none 0 0)))
        have hxw : Ext W0 ((((((((((((w6.setCell ⟨w3.heap.size, 0, none⟩ (.slice none 0 0)).setCell ⟨w3.heap.size, 1, none⟩ (.slice none 0 0)).setCell ⟨w3.heap.size, 2, none⟩ (.int .i64 0)).setCell ⟨w3.heap.size, 3, none⟩ (.slice none 0 0)).setCell ⟨w3.heap.size, 4, none⟩ (.slice none 0 0)).setCell ⟨w3.heap.size, 5, none⟩ (.slice none 0 0)).setCell ⟨w3.heap.size, 6, none⟩ (.slice none 0 0)).setCell ⟨w3.heap.size, 7, none⟩ (.slice none 0 0)).setCell ⟨w3.heap.size, 8, none⟩ (.slice none 0 0)).setCell ⟨w3.heap.size, 9, none⟩ (.slice none 0 0)).setCell ⟨w3.heap.size, 10, none⟩ (.slice none 0 0)).setCell ⟨w3.heap.size, 11, none⟩ (.slice none 0 0)) := Below.grown (HX5.out.trans hx6) gz (HX5.out.trans hx6).size (fun k hk => by have := Option.some.inj hk; have := HS0.out; omega)
        have HXW := Lib.hid hxw
        have HVA := Lib.hid (vchZ_at ((((((((((((w6.setCell ⟨w3.heap.size, 0, none⟩ (.slice none 0 0)).setCell ⟨w3.heap.size, 1, none⟩ (.slice none 0 0)).setCell ⟨w3.heap.size, 2, none⟩ (.int .i64 0)).setCell ⟨w3.heap.size, 3, none⟩ (.slice none 0 0)).setCell ⟨w3.heap.size, 4, none⟩ (.slice none 0 0)).setCell ⟨w3.heap.size, 5, none⟩ (.slice none 0 0)).setCell ⟨w3.heap.size, 6, none⟩ (.slice none 0 0)).setCell ⟨w3.heap.size, 7, none⟩ (.slice none 0 0)).setCell ⟨w3.heap.size, 8, none⟩ (.slice none 0 0)).setCell ⟨w3.heap.size, 9, none⟩ (.slice none 0 0)).setCell ⟨w3.heap.size, 10, none⟩ (.slice none 0 0)).setCell ⟨w3.heap.size, 11, none⟩ (.slice none 0 0)))
        clear hd gz hxw hx6 
        go_wp2_with fail
        clear k0 k1 k2 k3 k4 k5 k6 k7 k8 k9 k10 k11 kf0 kf1 kf2 kf3 kf4 kf5 kf6 kf7 kf8 kf9 kf10 kf11
        generalize ((((((((((((w6.setCell ⟨w3.heap.size, 0, none⟩ (.slice none 0 0)).setCell ⟨w3.heap.size, 1, none⟩ (.slice none 0 0)).setCell ⟨w3.heap.size, 2, none⟩ (.int .i64 0)).setCell ⟨w3.heap.size, 3, none⟩ (.slice none 0 0)).setCell ⟨w3.heap.size, 4, none⟩ (.slice none 0 0)).setCell ⟨w3.heap.size, 5, none⟩ (.slice none 0 0)).setCell ⟨w3.heap.size, 6, none⟩ (.slice none 0 0)).setCell ⟨w3.heap.size, 7, none⟩ (.slice none 0 0)).setCell ⟨w3.heap.size, 8, none⟩ (.slice none 0 0)).setCell ⟨w3.heap.size, 9, none⟩ (.slice none 0 0)).setCell ⟨w3.heap.size, 10, none⟩ (.slice none 0 0)).setCell ⟨w3.heap.size, 11, none⟩ (.slice none 0 0)) = W6 at *
        (with_reducible refine (dread_any (HVB.out.ext HXW.out) HB.out L.out).mono ?_)
        rintro e w7 (⟨vch2, hr2, um, ua, ur, ul, uo, ura, urb, urc, ula, ulb, ulc, he, hA7, hx7⟩ | ⟨-, he, hx7⟩)
        · exact absurd hr2 (HN.out vch2)
        have he : e = .returned (.tuple #[.agg #[.slice none 0 0, .slice none 0 0, .int .i64 0, .slice none 0 0, .slice none 0 0, .slice none 0 0, .slice none 0 0, .slice none 0 0, .slice none 0 0, .slice none 0 0, .slice none 0 0, .slice none 0 0], .bool false]) := he
        subst he
        have hal7 := Ext.alloc w7 (Obj.cells #[.slice none 0 0, .slice none 0 0, .int .i64 0, .slice none 0 0, .slice none 0 0, .slice none 0 0, .slice none 0 0, .slice none 0 0, .slice none 0 0, .slice none 0 0, .slice none 0 0, .slice none 0 0] 30)
        have HU := Lib.hid (CellsAt.new w7 [.slice none 0 0, .slice none 0 0, .int .i64 0, .slice none 0 0, .slice none 0 0, .slice none 0 0, .slice none 0 0, .slice none 0 0, .slice none 0 0, .slice none 0 0, .slice none 0 0, .slice none 0 0] 30)
        have HZ7 := Lib.hid ((HZ.out.ext hx7 (by simp)).ext hal7 (by simp))
        have HVA7 := Lib.hid ((HVA.out.ext hx7).ext hal7)
        have HUA := Lib.hid (vchZ_at (w7.alloc (Obj.cells #[.slice none 0 0, .slice none 0 0, .int .i64 0, .slice none 0 0, .slice none 0 0, .slice none 0 0, .slice none 0 0, .slice none 0 0, .slice none 0 0, .slice none 0 0, .slice none 0 0, .slice none 0 0] 30)))
        have HX7 := Lib.hid ((HXW.out.trans hx7).trans hal7)
        have C := error_any 5 5 _ (HGH.out.ext HX7.out)
        rw [errv_pos (by decide)] at C
        clear hx7 hal7 
        go_wp2_with fail
        generalize w7.alloc (Obj.cells #[.slice none 0 0, .slice none 0 0, .int .i64 0, .slice none 0 0, .slice none 0 0, .slice none 0 0, .slice none 0 0, .slice none 0 0, .slice none 0 0, .slice none 0 0, .slice none 0 0, .slice none 0 0] 30) = w8 at *
        (with_reducible refine C.mono ?_)
        rintro e w9 ⟨he, hx9⟩
        rw [show ((5 : Int) == 5) = true from rfl] at he
        subst he
        clear C
        have HU9 := Lib.hid (HU.out.ext hx9 (by simp)); have HZ9 := Lib.hid (HZ7.out.ext hx9 (by simp))
        have HX9 := Lib.hid (HX7.out.trans hx9)
        have C := svch_any (HVA7.out.ext hx9) (HUA.out.ext hx9)
        rw [svB_refl, show vchZ.tries = 0 from rfl] at C
        have k0 := HU9.out.at_ 0 (by first | decide | simp)
        have k1 := HU9.out.at_ 1 (by first | decide | simp)
        have k2 := HU9.out.at_ 2 (by first | decide | simp)
        have k3 := HU9.out.at_ 3 (by first | decide | simp)
        have k4 := HU9.out.at_ 4 (by first | decide | simp)
        have k5 := HU9.out.at_ 5 (by first | decide | simp)
        have k6 := HU9.out.at_ 6 (by first | decide | simp)
        have k7 := HU9.out.at_ 7 (by first | decide | simp)
        have k8 := HU9.out.at_ 8 (by first | decide | simp)
        have k9 := HU9.out.at_ 9 (by first | decide | simp)
        have k10 := HU9.out.at_ 10 (by first | decide | simp)
        have k11 := HU9.out.at_ 11 (by first | decide | simp)
        simp only [List.getElem_cons_zero, List.getElem_cons_succ] at k0 k1 k2 k3 k4 k5 k6 k7 k8 k9 k10 k11
        have j0 := HZ9.out.at_ 0 (by first | decide | simp)
        have j1 := HZ9.out.at_ 1 (by first | decide | simp)
        have j2 := HZ9.out.at_ 2 (by first | decide | simp)
        have j3 := HZ9.out.at_ 3 (by first | decide | simp)
        have j4 := HZ9.out.at_ 4 (by first | decide | simp)
        have j5 := HZ9.out.at_ 5 (by first | decide | simp)
        have j6 := HZ9.out.at_ 6 (by first | decide | simp)
        have j7 := HZ9.out.at_ 7 (by first | decide | simp)
        have j8 := HZ9.out.at_ 8 (by first | decide | simp)
        have j9 := HZ9.out.at_ 9 (by first | decide | simp)
        have j10 := HZ9.out.at_ 10 (by first | decide | simp)
        have j11 := HZ9.out.at_ 11 (by first | decide | simp)
        simp only [List.getElem_cons_zero, List.getElem_cons_succ] at j0 j1 j2 j3 j4 j5 j6 j7 j8 j9 j10 j11
        clear hx9
        go_wp2_with fail
        clear k0 k1 k2 k3 k4 k5 k6 k7 k8 k9 k10 k11
        clear j0 j1 j2 j3 j4 j5 j6 j7 j8 j9 j10 j11
        (with_reducible refine C.mono ?_)
        rintro e wa ⟨rfl, hxa⟩
        clear C
        have HXA := Lib.hid ((HX.out.trans HX9.out).trans hxa)
        clear hxa
        go_wp2_with fail
        go_ret
        exact ⟨rfl, HXA.out⟩
end Go.Proofs.YthpgmjdepigihaaDoor

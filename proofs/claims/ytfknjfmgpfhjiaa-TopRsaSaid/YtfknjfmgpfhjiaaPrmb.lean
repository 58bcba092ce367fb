/-
  The primes of the kept keys, by their certificates (printed by a program of mine: wip/primes.py.txt, wip/mkprmb.py.txt); the keys' numbers; a key turns itself round. No program in sight.
-/
import Derived.Test.YtfknjfmgpfhjiaaPrm
import Derived.Test.YtfknjfmgpfhjiaaMath
namespace Go.Proofs.Ytfknjfmgpfhjiaa
namespace Keys

theorem prm_973591 : Prm 973591 := prm_small (f := 986) (by decide) (by decide +kernel) (by decide +kernel)

theorem prm_87881 : Prm 87881 := prm_small (f := 296) (by decide) (by decide +kernel) (by decide +kernel)

theorem prm_36151 : Prm 36151 := prm_small (f := 190) (by decide) (by decide +kernel) (by decide +kernel)

theorem prm_14220365526706201077871 : Prm 14220365526706201077871 := by
  refine pock (F := 973591 * 87881 * 36151) (by decide) (by decide +kernel) fun r hr hrN => ?_
  have h0 : 973591 ∣ r - 1 := cert_dvd (a := 2) (f := 74) (by decide +kernel) (by decide +kernel) (by decide) prm_973591 hr hrN
  have h1 : 87881 ∣ r - 1 := cert_dvd (a := 2) (f := 74) (by decide +kernel) (by decide +kernel) (by decide) prm_87881 hr hrN
  have h2 : 36151 ∣ r - 1 := cert_dvd (a := 2) (f := 74) (by decide +kernel) (by decide +kernel) (by decide) prm_36151 hr hrN
  exact (mul_dvd prm_36151 (mul_dvd prm_87881 h0 h1 (by decide +kernel)) h2 (by decide +kernel))

theorem prm_702529 : Prm 702529 := prm_small (f := 838) (by decide) (by decide +kernel) (by decide +kernel)

theorem prm_10262543633 : Prm 10262543633 := by
  refine pock (F := 702529) (by decide) (by decide +kernel) fun r hr hrN => ?_
  have h0 : 702529 ∣ r - 1 := cert_dvd (a := 2) (f := 34) (by decide +kernel) (by decide +kernel) (by decide) prm_702529 hr hrN
  exact h0

theorem prm_246301047193 : Prm 246301047193 := by
  refine pock (F := 10262543633) (by decide) (by decide +kernel) fun r hr hrN => ?_
  have h0 : 10262543633 ∣ r - 1 := cert_dvd (a := 2) (f := 38) (by decide +kernel) (by decide +kernel) (by decide) prm_10262543633 hr hrN
  exact h0

theorem prm_68964293214041 : Prm 68964293214041 := by
  refine pock (F := 246301047193) (by decide) (by decide +kernel) fun r hr hrN => ?_
  have h0 : 246301047193 ∣ r - 1 := cert_dvd (a := 2) (f := 46) (by decide +kernel) (by decide +kernel) (by decide) prm_246301047193 hr hrN
  exact h0

theorem prm_23236691026952546459 : Prm 23236691026952546459 := by
  refine pock (F := 68964293214041) (by decide) (by decide +kernel) fun r hr hrN => ?_
  have h0 : 68964293214041 ∣ r - 1 := cert_dvd (a := 2) (f := 65) (by decide +kernel) (by decide +kernel) (by decide) prm_68964293214041 hr hrN
  exact h0

theorem prm_440208639276132997491800604758226661590679912188273141493 : Prm 440208639276132997491800604758226661590679912188273141493 := by
  refine pock (F := 14220365526706201077871 * 23236691026952546459) (by decide) (by decide +kernel) fun r hr hrN => ?_
  have h0 : 14220365526706201077871 ∣ r - 1 := cert_dvd (a := 2) (f := 189) (by decide +kernel) (by decide +kernel) (by decide) prm_14220365526706201077871 hr hrN
  have h1 : 23236691026952546459 ∣ r - 1 := cert_dvd (a := 2) (f := 189) (by decide +kernel) (by decide +kernel) (by decide) prm_23236691026952546459 hr hrN
  exact (mul_dvd prm_23236691026952546459 h0 h1 (by decide +kernel))

theorem prm_115792089237316195423570985008687907853269984665640564039457584007913129639747 : Prm 115792089237316195423570985008687907853269984665640564039457584007913129639747 := by
  refine pock (F := 440208639276132997491800604758226661590679912188273141493) (by decide) (by decide +kernel) fun r hr hrN => ?_
  have h0 : 440208639276132997491800604758226661590679912188273141493 ∣ r - 1 := cert_dvd (a := 2) (f := 256) (by decide +kernel) (by decide +kernel) (by decide) prm_440208639276132997491800604758226661590679912188273141493 hr hrN
  exact h0

theorem prm_991 : Prm 991 := prm_small (f := 31) (by decide) (by decide +kernel) (by decide +kernel)

theorem prm_103 : Prm 103 := prm_small (f := 10) (by decide) (by decide +kernel) (by decide +kernel)

theorem prm_8574133 : Prm 8574133 := by
  refine pock (F := 991 * 103) (by decide) (by decide +kernel) fun r hr hrN => ?_
  have h0 : 991 ∣ r - 1 := cert_dvd (a := 2) (f := 24) (by decide +kernel) (by decide +kernel) (by decide) prm_991 hr hrN
  have h1 : 103 ∣ r - 1 := cert_dvd (a := 2) (f := 24) (by decide +kernel) (by decide +kernel) (by decide) prm_103 hr hrN
  exact (mul_dvd prm_103 h0 h1 (by decide +kernel))

theorem prm_127 : Prm 127 := prm_small (f := 11) (by decide) (by decide +kernel) (by decide +kernel)

theorem prm_1919519569386763 : Prm 1919519569386763 := by
  refine pock (F := 8574133 * 127) (by decide) (by decide +kernel) fun r hr hrN => ?_
  have h0 : 8574133 ∣ r - 1 := cert_dvd (a := 2) (f := 51) (by decide +kernel) (by decide +kernel) (by decide) prm_8574133 hr hrN
  have h1 : 127 ∣ r - 1 := cert_dvd (a := 2) (f := 51) (by decide +kernel) (by decide +kernel) (by decide) prm_127 hr hrN
  exact (mul_dvd prm_127 h0 h1 (by decide +kernel))

theorem prm_569003 : Prm 569003 := prm_small (f := 754) (by decide) (by decide +kernel) (by decide +kernel)

theorem prm_2773320623 : Prm 2773320623 := by
  refine pock (F := 569003) (by decide) (by decide +kernel) fun r hr hrN => ?_
  have h0 : 569003 ∣ r - 1 := cert_dvd (a := 2) (f := 32) (by decide +kernel) (by decide +kernel) (by decide) prm_569003 hr hrN
  exact h0

theorem prm_72106336199 : Prm 72106336199 := by
  refine pock (F := 2773320623) (by decide) (by decide +kernel) fun r hr hrN => ?_
  have h0 : 2773320623 ∣ r - 1 := cert_dvd (a := 2) (f := 37) (by decide +kernel) (by decide +kernel) (by decide) prm_2773320623 hr hrN
  exact h0

theorem prm_75445702479781427272750846543864801 : Prm 75445702479781427272750846543864801 := by
  refine pock (F := 1919519569386763 * 72106336199) (by decide) (by decide +kernel) fun r hr hrN => ?_
  have h0 : 1919519569386763 ∣ r - 1 := cert_dvd (a := 2) (f := 116) (by decide +kernel) (by decide +kernel) (by decide) prm_1919519569386763 hr hrN
  have h1 : 72106336199 ∣ r - 1 := cert_dvd (a := 2) (f := 116) (by decide +kernel) (by decide +kernel) (by decide) prm_72106336199 hr hrN
  exact (mul_dvd prm_72106336199 h0 h1 (by decide +kernel))

theorem prm_430751 : Prm 430751 := prm_small (f := 656) (by decide) (by decide +kernel) (by decide +kernel)

theorem prm_4153 : Prm 4153 := prm_small (f := 64) (by decide) (by decide +kernel) (by decide +kernel)

theorem prm_31757755568855353 : Prm 31757755568855353 := by
  refine pock (F := 430751 * 4153) (by decide) (by decide +kernel) fun r hr hrN => ?_
  have h0 : 430751 ∣ r - 1 := cert_dvd (a := 2) (f := 55) (by decide +kernel) (by decide +kernel) (by decide) prm_430751 hr hrN
  have h1 : 4153 ∣ r - 1 := cert_dvd (a := 2) (f := 55) (by decide +kernel) (by decide +kernel) (by decide) prm_4153 hr hrN
  exact (mul_dvd prm_4153 h0 h1 (by decide +kernel))

theorem prm_74058212732561358302231226437062788676166966415465897661863160754340907 : Prm 74058212732561358302231226437062788676166966415465897661863160754340907 := by
  refine pock (F := 75445702479781427272750846543864801 * 31757755568855353) (by decide) (by decide +kernel) fun r hr hrN => ?_
  have h0 : 75445702479781427272750846543864801 ∣ r - 1 := cert_dvd (a := 2) (f := 236) (by decide +kernel) (by decide +kernel) (by decide) prm_75445702479781427272750846543864801 hr hrN
  have h1 : 31757755568855353 ∣ r - 1 := cert_dvd (a := 2) (f := 236) (by decide +kernel) (by decide +kernel) (by decide) prm_31757755568855353 hr hrN
  exact (mul_dvd prm_31757755568855353 h0 h1 (by decide +kernel))

theorem prm_57896044618658097711785492504343953926634992332820282019728792003956564819949 : Prm 57896044618658097711785492504343953926634992332820282019728792003956564819949 := by
  refine pock (F := 74058212732561358302231226437062788676166966415465897661863160754340907) (by decide) (by decide +kernel) fun r hr hrN => ?_
  have h0 : 74058212732561358302231226437062788676166966415465897661863160754340907 ∣ r - 1 := cert_dvd (a := 2) (f := 255) (by decide +kernel) (by decide +kernel) (by decide) prm_74058212732561358302231226437062788676166966415465897661863160754340907 hr hrN
  exact h0

theorem prm_263 : Prm 263 := prm_small (f := 16) (by decide) (by decide +kernel) (by decide +kernel)

theorem prm_59 : Prm 59 := prm_small (f := 7) (by decide) (by decide +kernel) (by decide +kernel)

theorem prm_1458599 : Prm 1458599 := by
  refine pock (F := 263 * 59) (by decide) (by decide +kernel) fun r hr hrN => ?_
  have h0 : 263 ∣ r - 1 := cert_dvd (a := 2) (f := 21) (by decide +kernel) (by decide +kernel) (by decide) prm_263 hr hrN
  have h1 : 59 ∣ r - 1 := cert_dvd (a := 2) (f := 21) (by decide +kernel) (by decide +kernel) (by decide) prm_59 hr hrN
  exact (mul_dvd prm_59 h0 h1 (by decide +kernel))

theorem prm_863 : Prm 863 := prm_small (f := 29) (by decide) (by decide +kernel) (by decide +kernel)

theorem prm_13632489247711 : Prm 13632489247711 := by
  refine pock (F := 1458599 * 863) (by decide) (by decide +kernel) fun r hr hrN => ?_
  have h0 : 1458599 ∣ r - 1 := cert_dvd (a := 2) (f := 44) (by decide +kernel) (by decide +kernel) (by decide) prm_1458599 hr hrN
  have h1 : 863 ∣ r - 1 := cert_dvd (a := 2) (f := 44) (by decide +kernel) (by decide +kernel) (by decide) prm_863 hr hrN
  exact (mul_dvd prm_863 h0 h1 (by decide +kernel))

theorem prm_31899288685224363607 : Prm 31899288685224363607 := by
  refine pock (F := 13632489247711) (by decide) (by decide +kernel) fun r hr hrN => ?_
  have h0 : 13632489247711 ∣ r - 1 := cert_dvd (a := 2) (f := 65) (by decide +kernel) (by decide +kernel) (by decide) prm_13632489247711 hr hrN
  exact h0

theorem prm_60126941426599669447189234697 : Prm 60126941426599669447189234697 := by
  refine pock (F := 31899288685224363607) (by decide) (by decide +kernel) fun r hr hrN => ?_
  have h0 : 31899288685224363607 ∣ r - 1 := cert_dvd (a := 2) (f := 96) (by decide +kernel) (by decide +kernel) (by decide) prm_31899288685224363607 hr hrN
  exact h0

theorem prm_447859 : Prm 447859 := prm_small (f := 669) (by decide) (by decide +kernel) (by decide +kernel)

theorem prm_747028813 : Prm 747028813 := by
  refine pock (F := 447859) (by decide) (by decide +kernel) fun r hr hrN => ?_
  have h0 : 447859 ∣ r - 1 := cert_dvd (a := 2) (f := 30) (by decide +kernel) (by decide +kernel) (by decide) prm_447859 hr hrN
  exact h0

theorem prm_68272457277697 : Prm 68272457277697 := by
  refine pock (F := 747028813) (by decide) (by decide +kernel) fun r hr hrN => ?_
  have h0 : 747028813 ∣ r - 1 := cert_dvd (a := 2) (f := 46) (by decide +kernel) (by decide +kernel) (by decide) prm_747028813 hr hrN
  exact h0

theorem prm_58046022126052663018522713286279169250844263723568937103399901 : Prm 58046022126052663018522713286279169250844263723568937103399901 := by
  refine pock (F := 60126941426599669447189234697 * 68272457277697) (by decide) (by decide +kernel) fun r hr hrN => ?_
  have h0 : 60126941426599669447189234697 ∣ r - 1 := cert_dvd (a := 2) (f := 206) (by decide +kernel) (by decide +kernel) (by decide) prm_60126941426599669447189234697 hr hrN
  have h1 : 68272457277697 ∣ r - 1 := cert_dvd (a := 2) (f := 206) (by decide +kernel) (by decide +kernel) (by decide) prm_68272457277697 hr hrN
  exact (mul_dvd prm_68272457277697 h0 h1 (by decide +kernel))

theorem prm_115792089237316195423570985008687907853269984665640564039457584007913129639579 : Prm 115792089237316195423570985008687907853269984665640564039457584007913129639579 := by
  refine pock (F := 58046022126052663018522713286279169250844263723568937103399901) (by decide) (by decide +kernel) fun r hr hrN => ?_
  have h0 : 58046022126052663018522713286279169250844263723568937103399901 ∣ r - 1 := cert_dvd (a := 2) (f := 256) (by decide +kernel) (by decide +kernel) (by decide) prm_58046022126052663018522713286279169250844263723568937103399901 hr hrN
  exact h0

theorem prm_419527 : Prm 419527 := prm_small (f := 647) (by decide) (by decide +kernel) (by decide +kernel)

theorem prm_173 : Prm 173 := prm_small (f := 13) (by decide) (by decide +kernel) (by decide +kernel)

theorem prm_1864388056649 : Prm 1864388056649 := by
  refine pock (F := 419527 * 173) (by decide) (by decide +kernel) fun r hr hrN => ?_
  have h0 : 419527 ∣ r - 1 := cert_dvd (a := 2) (f := 41) (by decide +kernel) (by decide +kernel) (by decide) prm_419527 hr hrN
  have h1 : 173 ∣ r - 1 := cert_dvd (a := 2) (f := 41) (by decide +kernel) (by decide +kernel) (by decide) prm_173 hr hrN
  exact (mul_dvd prm_173 h0 h1 (by decide +kernel))

theorem prm_41113485425223749 : Prm 41113485425223749 := by
  refine pock (F := 1864388056649) (by decide) (by decide +kernel) fun r hr hrN => ?_
  have h0 : 1864388056649 ∣ r - 1 := cert_dvd (a := 2) (f := 56) (by decide +kernel) (by decide +kernel) (by decide) prm_1864388056649 hr hrN
  exact h0

theorem prm_5519485418336288303251 : Prm 5519485418336288303251 := by
  refine pock (F := 41113485425223749) (by decide) (by decide +kernel) fun r hr hrN => ?_
  have h0 : 41113485425223749 ∣ r - 1 := cert_dvd (a := 3) (f := 73) (by decide +kernel) (by decide +kernel) (by decide) prm_41113485425223749 hr hrN
  exact h0

theorem prm_842887 : Prm 842887 := prm_small (f := 918) (by decide) (by decide +kernel) (by decide +kernel)

theorem prm_184711 : Prm 184711 := prm_small (f := 429) (by decide) (by decide +kernel) (by decide +kernel)

theorem prm_4710883168879506001 : Prm 4710883168879506001 := by
  refine pock (F := 842887 * 184711) (by decide) (by decide +kernel) fun r hr hrN => ?_
  have h0 : 842887 ∣ r - 1 := cert_dvd (a := 3) (f := 63) (by decide +kernel) (by decide +kernel) (by decide) prm_842887 hr hrN
  have h1 : 184711 ∣ r - 1 := cert_dvd (a := 3) (f := 63) (by decide +kernel) (by decide +kernel) (by decide) prm_184711 hr hrN
  exact (mul_dvd prm_184711 h0 h1 (by decide +kernel))

theorem prm_57896044618658097711785492504343953926634992332820282019728792003956564819937 : Prm 57896044618658097711785492504343953926634992332820282019728792003956564819937 := by
  refine pock (F := 5519485418336288303251 * 4710883168879506001) (by decide) (by decide +kernel) fun r hr hrN => ?_
  have h0 : 5519485418336288303251 ∣ r - 1 := cert_dvd (a := 2) (f := 255) (by decide +kernel) (by decide +kernel) (by decide) prm_5519485418336288303251 hr hrN
  have h1 : 4710883168879506001 ∣ r - 1 := cert_dvd (a := 2) (f := 255) (by decide +kernel) (by decide +kernel) (by decide) prm_4710883168879506001 hr hrN
  exact (mul_dvd prm_4710883168879506001 h0 h1 (by decide +kernel))

theorem prm_603103 : Prm 603103 := prm_small (f := 776) (by decide) (by decide +kernel) (by decide +kernel)

theorem prm_191752980233 : Prm 191752980233 := by
  refine pock (F := 603103) (by decide) (by decide +kernel) fun r hr hrN => ?_
  have h0 : 603103 ∣ r - 1 := cert_dvd (a := 2) (f := 38) (by decide +kernel) (by decide +kernel) (by decide) prm_603103 hr hrN
  exact h0

theorem prm_1109 : Prm 1109 := prm_small (f := 33) (by decide) (by decide +kernel) (by decide +kernel)

theorem prm_683 : Prm 683 := prm_small (f := 26) (by decide) (by decide +kernel) (by decide +kernel)

theorem prm_1684562129 : Prm 1684562129 := by
  refine pock (F := 1109 * 683) (by decide) (by decide +kernel) fun r hr hrN => ?_
  have h0 : 1109 ∣ r - 1 := cert_dvd (a := 2) (f := 31) (by decide +kernel) (by decide +kernel) (by decide) prm_1109 hr hrN
  have h1 : 683 ∣ r - 1 := cert_dvd (a := 2) (f := 31) (by decide +kernel) (by decide +kernel) (by decide) prm_683 hr hrN
  exact (mul_dvd prm_683 h0 h1 (by decide +kernel))

theorem prm_4256108998421884090447033 : Prm 4256108998421884090447033 := by
  refine pock (F := 191752980233 * 1684562129) (by decide) (by decide +kernel) fun r hr hrN => ?_
  have h0 : 191752980233 ∣ r - 1 := cert_dvd (a := 2) (f := 82) (by decide +kernel) (by decide +kernel) (by decide) prm_191752980233 hr hrN
  have h1 : 1684562129 ∣ r - 1 := cert_dvd (a := 2) (f := 82) (by decide +kernel) (by decide +kernel) (by decide) prm_1684562129 hr hrN
  exact (mul_dvd prm_1684562129 h0 h1 (by decide +kernel))

theorem prm_226383580007948671454741876052149460081859 : Prm 226383580007948671454741876052149460081859 := by
  refine pock (F := 4256108998421884090447033) (by decide) (by decide +kernel) fun r hr hrN => ?_
  have h0 : 4256108998421884090447033 ∣ r - 1 := cert_dvd (a := 2) (f := 138) (by decide +kernel) (by decide +kernel) (by decide) prm_4256108998421884090447033 hr hrN
  exact h0

theorem prm_152401426061351045623332230958307016527107478801 : Prm 152401426061351045623332230958307016527107478801 := by
  refine pock (F := 226383580007948671454741876052149460081859) (by decide) (by decide +kernel) fun r hr hrN => ?_
  have h0 : 226383580007948671454741876052149460081859 ∣ r - 1 := cert_dvd (a := 2) (f := 157) (by decide +kernel) (by decide +kernel) (by decide) prm_226383580007948671454741876052149460081859 hr hrN
  exact h0

theorem prm_231584178474632390847141970017375815706539969331281128078915168015826259279779 : Prm 231584178474632390847141970017375815706539969331281128078915168015826259279779 := by
  refine pock (F := 152401426061351045623332230958307016527107478801) (by decide) (by decide +kernel) fun r hr hrN => ?_
  have h0 : 152401426061351045623332230958307016527107478801 ∣ r - 1 := cert_dvd (a := 2) (f := 257) (by decide +kernel) (by decide +kernel) (by decide) prm_152401426061351045623332230958307016527107478801 hr hrN
  exact h0

theorem prm_2437 : Prm 2437 := prm_small (f := 49) (by decide) (by decide +kernel) (by decide +kernel)

theorem prm_7 : Prm 7 := prm_small (f := 2) (by decide) (by decide +kernel) (by decide +kernel)

theorem prm_9211861 : Prm 9211861 := by
  refine pock (F := 2437 * 7) (by decide) (by decide +kernel) fun r hr hrN => ?_
  have h0 : 2437 ∣ r - 1 := cert_dvd (a := 2) (f := 24) (by decide +kernel) (by decide +kernel) (by decide) prm_2437 hr hrN
  have h1 : 7 ∣ r - 1 := cert_dvd (a := 2) (f := 24) (by decide +kernel) (by decide +kernel) (by decide) prm_7 hr hrN
  exact (mul_dvd prm_7 h0 h1 (by decide +kernel))

theorem prm_24098228377 : Prm 24098228377 := by
  refine pock (F := 9211861) (by decide) (by decide +kernel) fun r hr hrN => ?_
  have h0 : 9211861 ∣ r - 1 := cert_dvd (a := 2) (f := 35) (by decide +kernel) (by decide +kernel) (by decide) prm_9211861 hr hrN
  exact h0

theorem prm_674750394557 : Prm 674750394557 := by
  refine pock (F := 24098228377) (by decide) (by decide +kernel) fun r hr hrN => ?_
  have h0 : 24098228377 ∣ r - 1 := cert_dvd (a := 2) (f := 40) (by decide +kernel) (by decide +kernel) (by decide) prm_24098228377 hr hrN
  exact h0

theorem prm_361725589517273017 : Prm 361725589517273017 := by
  refine pock (F := 674750394557) (by decide) (by decide +kernel) fun r hr hrN => ?_
  have h0 : 674750394557 ∣ r - 1 := cert_dvd (a := 2) (f := 59) (by decide +kernel) (by decide +kernel) (by decide) prm_674750394557 hr hrN
  exact h0

theorem prm_173308343918874810521923841 : Prm 173308343918874810521923841 := by
  refine pock (F := 361725589517273017) (by decide) (by decide +kernel) fun r hr hrN => ?_
  have h0 : 361725589517273017 ∣ r - 1 := cert_dvd (a := 3) (f := 88) (by decide +kernel) (by decide +kernel) (by decide) prm_361725589517273017 hr hrN
  exact h0

theorem prm_223 : Prm 223 := prm_small (f := 14) (by decide) (by decide +kernel) (by decide +kernel)

theorem prm_151 : Prm 151 := prm_small (f := 12) (by decide) (by decide +kernel) (by decide +kernel)

theorem prm_8620289 : Prm 8620289 := by
  refine pock (F := 223 * 151) (by decide) (by decide +kernel) fun r hr hrN => ?_
  have h0 : 223 ∣ r - 1 := cert_dvd (a := 2) (f := 24) (by decide +kernel) (by decide +kernel) (by decide) prm_223 hr hrN
  have h1 : 151 ∣ r - 1 := cert_dvd (a := 2) (f := 24) (by decide +kernel) (by decide +kernel) (by decide) prm_151 hr hrN
  exact (mul_dvd prm_151 h0 h1 (by decide +kernel))

theorem prm_2534364967 : Prm 2534364967 := by
  refine pock (F := 8620289) (by decide) (by decide +kernel) fun r hr hrN => ?_
  have h0 : 8620289 ∣ r - 1 := cert_dvd (a := 2) (f := 32) (by decide +kernel) (by decide +kernel) (by decide) prm_8620289 hr hrN
  exact h0

theorem prm_145295143558111 : Prm 145295143558111 := by
  refine pock (F := 2534364967) (by decide) (by decide +kernel) fun r hr hrN => ?_
  have h0 : 2534364967 ∣ r - 1 := cert_dvd (a := 3) (f := 48) (by decide +kernel) (by decide +kernel) (by decide) prm_2534364967 hr hrN
  exact h0

theorem prm_23609 : Prm 23609 := prm_small (f := 153) (by decide) (by decide +kernel) (by decide +kernel)

theorem prm_1433 : Prm 1433 := prm_small (f := 37) (by decide) (by decide +kernel) (by decide +kernel)

theorem prm_108140989558681 : Prm 108140989558681 := by
  refine pock (F := 23609 * 1433) (by decide) (by decide +kernel) fun r hr hrN => ?_
  have h0 : 23609 ∣ r - 1 := cert_dvd (a := 3) (f := 47) (by decide +kernel) (by decide +kernel) (by decide) prm_23609 hr hrN
  have h1 : 1433 ∣ r - 1 := cert_dvd (a := 3) (f := 47) (by decide +kernel) (by decide +kernel) (by decide) prm_1433 hr hrN
  exact (mul_dvd prm_1433 h0 h1 (by decide +kernel))

theorem prm_397 : Prm 397 := prm_small (f := 19) (by decide) (by decide +kernel) (by decide +kernel)

theorem prm_11 : Prm 11 := prm_small (f := 3) (by decide) (by decide +kernel) (by decide +kernel)

theorem prm_2995763 : Prm 2995763 := by
  refine pock (F := 397 * 11) (by decide) (by decide +kernel) fun r hr hrN => ?_
  have h0 : 397 ∣ r - 1 := cert_dvd (a := 2) (f := 22) (by decide +kernel) (by decide +kernel) (by decide) prm_397 hr hrN
  have h1 : 11 ∣ r - 1 := cert_dvd (a := 2) (f := 22) (by decide +kernel) (by decide +kernel) (by decide) prm_11 hr hrN
  exact (mul_dvd prm_11 h0 h1 (by decide +kernel))

theorem prm_65427463921 : Prm 65427463921 := by
  refine pock (F := 2995763) (by decide) (by decide +kernel) fun r hr hrN => ?_
  have h0 : 2995763 ∣ r - 1 := cert_dvd (a := 3) (f := 36) (by decide +kernel) (by decide +kernel) (by decide) prm_2995763 hr hrN
  exact h0

theorem prm_1663 : Prm 1663 := prm_small (f := 40) (by decide) (by decide +kernel) (by decide +kernel)

theorem prm_347 : Prm 347 := prm_small (f := 18) (by decide) (by decide +kernel) (by decide +kernel)

theorem prm_2400573761 : Prm 2400573761 := by
  refine pock (F := 1663 * 347) (by decide) (by decide +kernel) fun r hr hrN => ?_
  have h0 : 1663 ∣ r - 1 := cert_dvd (a := 3) (f := 32) (by decide +kernel) (by decide +kernel) (by decide) prm_1663 hr hrN
  have h1 : 347 ∣ r - 1 := cert_dvd (a := 3) (f := 32) (by decide +kernel) (by decide +kernel) (by decide) prm_347 hr hrN
  exact (mul_dvd prm_347 h0 h1 (by decide +kernel))

theorem prm_49481 : Prm 49481 := prm_small (f := 222) (by decide) (by decide +kernel) (by decide +kernel)

theorem prm_308761441 : Prm 308761441 := by
  refine pock (F := 49481) (by decide) (by decide +kernel) fun r hr hrN => ?_
  have h0 : 49481 ∣ r - 1 := cert_dvd (a := 3) (f := 29) (by decide +kernel) (by decide +kernel) (by decide) prm_49481 hr hrN
  exact h0

theorem prm_6864797660130609714981900799081393217269435300143305409394463459185543183397656052122559640661454554977296311391480858037121987999716643812574028291115057151 : Prm 6864797660130609714981900799081393217269435300143305409394463459185543183397656052122559640661454554977296311391480858037121987999716643812574028291115057151 := by
  refine pock (F := 173308343918874810521923841 * 145295143558111 * 108140989558681 * 65427463921 * 2400573761 * 308761441) (by decide) (by decide +kernel) fun r hr hrN => ?_
  have h0 : 173308343918874810521923841 ∣ r - 1 := cert_dvd (a := 3) (f := 521) (by decide +kernel) (by decide +kernel) (by decide) prm_173308343918874810521923841 hr hrN
  have h1 : 145295143558111 ∣ r - 1 := cert_dvd (a := 3) (f := 521) (by decide +kernel) (by decide +kernel) (by decide) prm_145295143558111 hr hrN
  have h2 : 108140989558681 ∣ r - 1 := cert_dvd (a := 3) (f := 521) (by decide +kernel) (by decide +kernel) (by decide) prm_108140989558681 hr hrN
  have h3 : 65427463921 ∣ r - 1 := cert_dvd (a := 3) (f := 521) (by decide +kernel) (by decide +kernel) (by decide) prm_65427463921 hr hrN
  have h4 : 2400573761 ∣ r - 1 := cert_dvd (a := 3) (f := 521) (by decide +kernel) (by decide +kernel) (by decide) prm_2400573761 hr hrN
  have h5 : 308761441 ∣ r - 1 := cert_dvd (a := 3) (f := 521) (by decide +kernel) (by decide +kernel) (by decide) prm_308761441 hr hrN
  exact (mul_dvd prm_308761441 (mul_dvd prm_2400573761 (mul_dvd prm_65427463921 (mul_dvd prm_108140989558681 (mul_dvd prm_145295143558111 h0 h1 (by decide +kernel)) h2 (by decide +kernel)) h3 (by decide +kernel)) h4 (by decide +kernel)) h5 (by decide +kernel))


theorem rsa_mod {p x : Nat} (hp : Prm p) (k : Nat) : x ^ (1 + k * (p - 1)) % p = x % p := by
  by_cases h : p ∣ x
  · rw [Nat.mod_eq_zero_of_dvd h, Nat.pow_add, Nat.pow_one]
    exact Nat.mod_eq_zero_of_dvd (Nat.dvd_trans h (Nat.dvd_mul_right _ _))
  · have h1 := fermat1 hp h
    rw [Nat.pow_add, Nat.pow_one, Nat.mul_comm k, Nat.pow_mul, Nat.mul_mod, Nat.pow_mod, h1, ← Nat.pow_mod, Nat.one_pow, ← Nat.mul_mod, Nat.mul_one]

theorem rsa_exp {p x m : Nat} (hp : Prm p) (h : m % (p - 1) = 1) : x ^ m % p = x % p := by
  have e : m = 1 + m / (p - 1) * (p - 1) := by
    have := Nat.div_add_mod m (p - 1)
    rw [h, Nat.mul_comm] at this
    omega
  rw [e]
  exact rsa_mod hp _

theorem eq_of_mods {p q x y : Nat} (hp : Prm p) (hq : Prm q) (hne : p ≠ q) (hx : x < p * q) (hy : y < p * q) (h1 : x % p = y % p) (h2 : x % q = y % q) : x = y := by
  have hnd : ¬ q ∣ p := fun h => by
    rcases hp.2 q h with h3 | h3
    · have := hq.1; omega
    · exact hne h3.symm
  have key : ∀ a b : Nat, a % p = b % p → a % q = b % q → b - a < p * q → b - a = 0 := by
    intro a b k1 k2 hl
    have d1 : p ∣ b - a := Nat.dvd_of_mod_eq_zero (Nat.sub_mod_eq_zero_of_mod_eq k1.symm)
    have d2 : q ∣ b - a := Nat.dvd_of_mod_eq_zero (Nat.sub_mod_eq_zero_of_mod_eq k2.symm)
    exact Nat.eq_zero_of_dvd_of_lt (mul_dvd hq d1 d2 hnd) hl
  have a1 := key x y h1 h2 (by omega)
  have a2 := key y x h1.symm h2.symm (by omega)
  omega

/-- A key turns itself round. -/
theorem rsa_back {p q d e x : Nat} (hp : Prm p) (hq : Prm q) (hne : p ≠ q) (h1 : d * e % (p - 1) = 1) (h2 : d * e % (q - 1) = 1) (hx : x < p * q) : (x ^ d % (p * q)) ^ e % (p * q) = x := by
  have hpos : 0 < p * q := Nat.mul_pos hp.pos hq.pos
  rw [← Nat.pow_mod, ← Nat.pow_mul]
  refine eq_of_mods hp hq hne (Nat.mod_lt _ hpos) hx ?_ ?_
  · rw [Nat.mod_mul_right_mod]
    exact rsa_exp hp h1
  · rw [Nat.mul_comm p q, Nat.mod_mul_right_mod]
    exact rsa_exp hq h2

/-- The primes. -/
def pt : Nat → Nat
  | 0 => 115792089237316195423570985008687907853269984665640564039457584007913129639747
  | 1 => 57896044618658097711785492504343953926634992332820282019728792003956564819949
  | 2 => 115792089237316195423570985008687907853269984665640564039457584007913129639579
  | 3 => 57896044618658097711785492504343953926634992332820282019728792003956564819937
  | 4 => 231584178474632390847141970017375815706539969331281128078915168015826259279779
  | _ => 6864797660130609714981900799081393217269435300143305409394463459185543183397656052122559640661454554977296311391480858037121987999716643812574028291115057151

theorem pt_prm : ∀ i, i < 6 → Prm (pt i)
  | 0, _ => prm_115792089237316195423570985008687907853269984665640564039457584007913129639747
  | 1, _ => prm_57896044618658097711785492504343953926634992332820282019728792003956564819949
  | 2, _ => prm_115792089237316195423570985008687907853269984665640564039457584007913129639579
  | 3, _ => prm_57896044618658097711785492504343953926634992332820282019728792003956564819937
  | 4, _ => prm_231584178474632390847141970017375815706539969331281128078915168015826259279779
  | 5, _ => prm_6864797660130609714981900799081393217269435300143305409394463459185543183397656052122559640661454554977296311391480858037121987999716643812574028291115057151
  | _ + 6, h => absurd h (by omega)

/-- Which two primes make a kept key. -/
def pa (r : Nat) : Nat := [0, 0, 2, 4, 4, 0, 2, 1, 3, 4, 0, 0].getD r 0
def pb (r : Nat) : Nat := [2, 4, 4, 1, 3, 5, 5, 5, 5, 5, 2, 4].getD r 0
/-- Its public exponent. -/
def ex (r : Nat) : Nat := if 10 ≤ r then 257 else 65537
/-- Its private exponent's digits. -/
def dl : Nat → List Nat
  | 0 => [3117002689, 3116975670, 3116975670, 3116975670, 3116975670, 3116975670, 3116975670, 3116975670, 1706006902, 1706007120, 1706007120, 1706007120, 1706007120, 1706007120, 1706007120, 1706007120]
  | 1 => [2819843437, 2819839980, 2819839980, 2819839980, 2819839980, 2819839980, 2819839980, 2819839980, 1662360718, 1662360810, 1662360810, 1662360810, 1662360810, 1662360810, 1662360810, 1662360810]
  | 2 => [427365101, 427353735, 427353735, 427353735, 427353735, 427353735, 427353735, 427353735, 2901234177, 2901234450, 2901234450, 2901234450, 2901234450, 2901234450, 2901234450, 2901234450]
  | 3 => [3294248769, 3294247845, 3294247845, 3294247845, 3294247845, 3294247845, 3294247845, 3294247845, 2109178397, 2109178440, 2109178440, 2109178440, 2109178440, 2109178440, 2109178440, 2109178440]
  | 4 => [1176746945, 1176746460, 1176746460, 1176746460, 1176746460, 1176746460, 1176746460, 1176746460, 692115117, 692115135, 692115135, 692115135, 692115135, 692115135, 692115135, 692115135]
  | 5 => [2826262761, 2826262410, 2826262410, 2826262410, 2826262410, 2826262410, 2826262410, 2826262410, 2155839358, 2155839360, 2155839360, 2155839360, 2155839360, 2155839360, 2155839360, 2155839360, 170301312, 170391000, 170391000, 170391000, 170391000, 170391000, 170391000, 170391000, 472]
  | 6 => [2763414653, 2763414345, 2763414345, 2763414345, 2763414345, 2763414345, 2763414345, 2763414345, 2155839359, 2155839360, 2155839360, 2155839360, 2155839360, 2155839360, 2155839360, 2155839360, 3374515072, 3374593755, 3374593755, 3374593755, 3374593755, 3374593755, 3374593755, 3374593755, 219]
  | 7 => [3092137937, 3092137905, 3092137905, 3092137905, 3092137905, 3092137905, 3092137905, 3092137905, 2155839359, 2155839360, 2155839360, 2155839360, 2155839360, 2155839360, 2155839360, 2155839360, 825732992, 825741000, 825741000, 825741000, 825741000, 825741000, 825741000, 825741000, 200]
  | 8 => [4167108545, 4167108510, 4167108510, 4167108510, 4167108510, 4167108510, 4167108510, 4167108510, 2155839359, 2155839360, 2155839360, 2155839360, 2155839360, 2155839360, 2155839360, 2155839360, 511164288, 511173000, 511173000, 511173000, 511173000, 511173000, 511173000, 511173000, 136]
  | 9 => [1922600345, 1922600295, 1922600295, 1922600295, 1922600295, 1922600295, 1922600295, 1922600295, 2155839359, 2155839360, 2155839360, 2155839360, 2155839360, 2155839360, 2155839360, 2155839360, 3874613120, 3874625805, 3874625805, 3874625805, 3874625805, 3874625805, 3874625805, 3874625805, 269]
  | 10 => [2506832333, 2506790250, 2506790250, 2506790250, 2506790250, 2506790250, 2506790250, 2506790250, 2657197326, 2657197665, 2657197665, 2657197665, 2657197665, 2657197665, 2657197665, 2657197665]
  | 11 => [300827617, 300814830, 300814830, 300814830, 300814830, 300814830, 300814830, 300814830, 1855024446, 1855024785, 1855024785, 1855024785, 1855024785, 1855024785, 1855024785, 1855024785, 1]
  | _ => []
def df (r : Nat) : Nat → Nat := fun j => (dl r).getD j 0
/-- Its private exponent. -/
def dv (r : Nat) : Nat := val (df r) (dl r).length
/-- Its modulus. -/
def mo (r : Nat) : Nat := pt (pa r) * pt (pb r)

/-- What is asked of a kept key's numbers. -/
def fit (r : Nat) : Bool :=
  decide (pa r < 6) && decide (pb r < 6) && decide (pt (pa r) ≠ pt (pb r)) && decide (dv r * ex r % (pt (pa r) - 1) = 1) && decide (dv r * ex r % (pt (pb r) - 1) = 1) && decide (dv r < mo r) && decide (mo r % 2 = 1) && decide (2 ^ 511 ≤ mo r) && decide (mo r < 2 ^ 1000) &&
    decide (0 < (dl r).length) && decide ((dl r).length ≤ 25) && (dl r).all (fun x => decide (x < 4294967296)) && decide ((dl r).getD ((dl r).length - 1) 0 ≠ 0)

theorem fits : ∀ r, r < 12 → fit r = true
  | 0, _ => by decide +kernel
  | 1, _ => by decide +kernel
  | 2, _ => by decide +kernel
  | 3, _ => by decide +kernel
  | 4, _ => by decide +kernel
  | 5, _ => by decide +kernel
  | 6, _ => by decide +kernel
  | 7, _ => by decide +kernel
  | 8, _ => by decide +kernel
  | 9, _ => by decide +kernel
  | 10, _ => by decide +kernel
  | 11, _ => by decide +kernel
  | _ + 12, h => absurd h (by omega)

/-- The first key is the one that its two primes make. -/
theorem first_made : dv 0 < (pt 0 - 1) * (pt 2 - 1) ∧ dv 0 * 65537 % ((pt 0 - 1) * (pt 2 - 1)) = 1 ∧ Nat.gcd 65537 ((pt 0 - 1) * (pt 2 - 1)) = 1 := by decide +kernel

end Keys
end Go.Proofs.Ytfknjfmgpfhjiaa

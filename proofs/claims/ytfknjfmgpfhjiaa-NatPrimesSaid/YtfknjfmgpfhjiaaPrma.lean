/-
  The primes of NatPrimes, by their certificates (printed by a program of mine: wip/primes.py.txt).
-/
import Derived.Test.YtfknjfmgpfhjiaaPrm
namespace Go.Proofs.Ytfknjfmgpfhjiaa

theorem prm_8191 : Prm 8191 := prm_small (f := 90) (by decide) (by decide +kernel) (by decide +kernel)

theorem prm_131071 : Prm 131071 := prm_small (f := 362) (by decide) (by decide +kernel) (by decide +kernel)

theorem prm_524287 : Prm 524287 := prm_small (f := 724) (by decide) (by decide +kernel) (by decide +kernel)

theorem prm_331 : Prm 331 := prm_small (f := 18) (by decide) (by decide +kernel) (by decide +kernel)

theorem prm_151 : Prm 151 := prm_small (f := 12) (by decide) (by decide +kernel) (by decide +kernel)

theorem prm_2147483647 : Prm 2147483647 := by
  refine pock (F := 331 * 151) (by decide) (by decide +kernel) fun r hr hrN => ?_
  have h0 : 331 ∣ r - 1 := cert_dvd (a := 3) (f := 31) (by decide +kernel) (by decide +kernel) (by decide) prm_331 hr hrN
  have h1 : 151 ∣ r - 1 := cert_dvd (a := 3) (f := 31) (by decide +kernel) (by decide +kernel) (by decide) prm_151 hr hrN
  exact (mul_dvd prm_151 h0 h1 (by decide +kernel))

theorem prm_1321 : Prm 1321 := prm_small (f := 36) (by decide) (by decide +kernel) (by decide +kernel)

theorem prm_61 : Prm 61 := prm_small (f := 7) (by decide) (by decide +kernel) (by decide +kernel)

theorem prm_2305843009213693951 : Prm 2305843009213693951 := by
  refine pock (F := 1321 * 331 * 151 * 61) (by decide) (by decide +kernel) fun r hr hrN => ?_
  have h0 : 1321 ∣ r - 1 := cert_dvd (a := 3) (f := 61) (by decide +kernel) (by decide +kernel) (by decide) prm_1321 hr hrN
  have h1 : 331 ∣ r - 1 := cert_dvd (a := 3) (f := 61) (by decide +kernel) (by decide +kernel) (by decide) prm_331 hr hrN
  have h2 : 151 ∣ r - 1 := cert_dvd (a := 3) (f := 61) (by decide +kernel) (by decide +kernel) (by decide) prm_151 hr hrN
  have h3 : 61 ∣ r - 1 := cert_dvd (a := 2) (f := 61) (by decide +kernel) (by decide +kernel) (by decide) prm_61 hr hrN
  exact (mul_dvd prm_61 (mul_dvd prm_151 (mul_dvd prm_331 h0 h1 (by decide +kernel)) h2 (by decide +kernel)) h3 (by decide +kernel))

theorem prm_8707 : Prm 8707 := prm_small (f := 93) (by decide) (by decide +kernel) (by decide +kernel)

theorem prm_1913 : Prm 1913 := prm_small (f := 43) (by decide) (by decide +kernel) (by decide +kernel)

theorem prm_2931542417 : Prm 2931542417 := by
  refine pock (F := 8707 * 1913) (by decide) (by decide +kernel) fun r hr hrN => ?_
  have h0 : 8707 ∣ r - 1 := cert_dvd (a := 3) (f := 32) (by decide +kernel) (by decide +kernel) (by decide) prm_8707 hr hrN
  have h1 : 1913 ∣ r - 1 := cert_dvd (a := 3) (f := 32) (by decide +kernel) (by decide +kernel) (by decide) prm_1913 hr hrN
  exact (mul_dvd prm_1913 h0 h1 (by decide +kernel))

theorem prm_2113 : Prm 2113 := prm_small (f := 45) (by decide) (by decide +kernel) (by decide +kernel)

theorem prm_683 : Prm 683 := prm_small (f := 26) (by decide) (by decide +kernel) (by decide +kernel)

theorem prm_618970019642690137449562111 : Prm 618970019642690137449562111 := by
  refine pock (F := 2931542417 * 2113 * 683) (by decide) (by decide +kernel) fun r hr hrN => ?_
  have h0 : 2931542417 ∣ r - 1 := cert_dvd (a := 3) (f := 89) (by decide +kernel) (by decide +kernel) (by decide) prm_2931542417 hr hrN
  have h1 : 2113 ∣ r - 1 := cert_dvd (a := 3) (f := 89) (by decide +kernel) (by decide +kernel) (by decide) prm_2113 hr hrN
  have h2 : 683 ∣ r - 1 := cert_dvd (a := 3) (f := 89) (by decide +kernel) (by decide +kernel) (by decide) prm_683 hr hrN
  exact (mul_dvd prm_683 (mul_dvd prm_2113 h0 h1 (by decide +kernel)) h2 (by decide +kernel))

theorem prm_1097 : Prm 1097 := prm_small (f := 33) (by decide) (by decide +kernel) (by decide +kernel)

theorem prm_131 : Prm 131 := prm_small (f := 11) (by decide) (by decide +kernel) (by decide +kernel)

theorem prm_67254877 : Prm 67254877 := by
  refine pock (F := 1097 * 131) (by decide) (by decide +kernel) fun r hr hrN => ?_
  have h0 : 1097 ∣ r - 1 := cert_dvd (a := 2) (f := 27) (by decide +kernel) (by decide +kernel) (by decide) prm_1097 hr hrN
  have h1 : 131 ∣ r - 1 := cert_dvd (a := 2) (f := 27) (by decide +kernel) (by decide +kernel) (by decide) prm_131 hr hrN
  exact (mul_dvd prm_131 h0 h1 (by decide +kernel))

theorem prm_28059810762433 : Prm 28059810762433 := by
  refine pock (F := 67254877) (by decide) (by decide +kernel) fun r hr hrN => ?_
  have h0 : 67254877 ∣ r - 1 := cert_dvd (a := 3) (f := 45) (by decide +kernel) (by decide +kernel) (by decide) prm_67254877 hr hrN
  exact h0

theorem prm_53 : Prm 53 := prm_small (f := 7) (by decide) (by decide +kernel) (by decide +kernel)

theorem prm_37 : Prm 37 := prm_small (f := 6) (by decide) (by decide +kernel) (by decide +kernel)

theorem prm_13 : Prm 13 := prm_small (f := 3) (by decide) (by decide +kernel) (by decide +kernel)

theorem prm_20394401 : Prm 20394401 := by
  refine pock (F := 53 * 37 * 13) (by decide) (by decide +kernel) fun r hr hrN => ?_
  have h0 : 53 ∣ r - 1 := cert_dvd (a := 2) (f := 25) (by decide +kernel) (by decide +kernel) (by decide) prm_53 hr hrN
  have h1 : 37 ∣ r - 1 := cert_dvd (a := 3) (f := 25) (by decide +kernel) (by decide +kernel) (by decide) prm_37 hr hrN
  have h2 : 13 ∣ r - 1 := cert_dvd (a := 3) (f := 25) (by decide +kernel) (by decide +kernel) (by decide) prm_13 hr hrN
  exact (mul_dvd prm_13 (mul_dvd prm_37 h0 h1 (by decide +kernel)) h2 (by decide +kernel))

theorem prm_162259276829213363391578010288127 : Prm 162259276829213363391578010288127 := by
  refine pock (F := 28059810762433 * 20394401) (by decide) (by decide +kernel) fun r hr hrN => ?_
  have h0 : 28059810762433 ∣ r - 1 := cert_dvd (a := 3) (f := 107) (by decide +kernel) (by decide +kernel) (by decide) prm_28059810762433 hr hrN
  have h1 : 20394401 ∣ r - 1 := cert_dvd (a := 3) (f := 107) (by decide +kernel) (by decide +kernel) (by decide) prm_20394401 hr hrN
  exact (mul_dvd prm_20394401 h0 h1 (by decide +kernel))

theorem prm_699053 : Prm 699053 := prm_small (f := 836) (by decide) (by decide +kernel) (by decide +kernel)

theorem prm_77158673929 : Prm 77158673929 := by
  refine pock (F := 699053) (by decide) (by decide +kernel) fun r hr hrN => ?_
  have h0 : 699053 ∣ r - 1 := cert_dvd (a := 3) (f := 37) (by decide +kernel) (by decide +kernel) (by decide) prm_699053 hr hrN
  exact h0

theorem prm_649657 : Prm 649657 := prm_small (f := 806) (by decide) (by decide +kernel) (by decide +kernel)

theorem prm_92737 : Prm 92737 := prm_small (f := 304) (by decide) (by decide +kernel) (by decide +kernel)

theorem prm_170141183460469231731687303715884105727 : Prm 170141183460469231731687303715884105727 := by
  refine pock (F := 77158673929 * 649657 * 92737) (by decide) (by decide +kernel) fun r hr hrN => ?_
  have h0 : 77158673929 ∣ r - 1 := cert_dvd (a := 3) (f := 127) (by decide +kernel) (by decide +kernel) (by decide) prm_77158673929 hr hrN
  have h1 : 649657 ∣ r - 1 := cert_dvd (a := 3) (f := 127) (by decide +kernel) (by decide +kernel) (by decide) prm_649657 hr hrN
  have h2 : 92737 ∣ r - 1 := cert_dvd (a := 3) (f := 127) (by decide +kernel) (by decide +kernel) (by decide) prm_92737 hr hrN
  exact (mul_dvd prm_92737 (mul_dvd prm_649657 h0 h1 (by decide +kernel)) h2 (by decide +kernel))

end Go.Proofs.Ytfknjfmgpfhjiaa

/- The table of the functions. -/
import Derived.Test.YtlfhlkndccjejaaKVCode0
set_option maxRecDepth 100000
namespace Go.Proofs.Ytlfhlkndccjejaa.KV
open Go.Proofs.Ytlfhlkndccjejaa.Abs
noncomputable def tabU : Tr FnI := (.n none (.n none (.n none (.n none (.n none (.n none (.n (some c63) .e .e) (.n none (.n (some c159) .e .e) .e)) (.n none (.n none (.n (some c143) .e .e) .e) .e)) .e) (.n none (.n none .e (.n none (.n (some c83) .e .e) (.n (some c115) .e .e))) .e)) (.n none (.n none (.n none (.n none (.n (some c65) .e .e) (.n none (.n (some c161) .e .e) .e)) (.n none .e (.n (some c113) .e .e))) (.n (some c25) .e .e)) (.n none (.n (some c21) .e (.n none (.n none (.n (some c149) .e .e) .e) .e)) (.n none (.n none (.n none (.n (some c141) .e .e) .e) .e) (.n none (.n none (.n (some c157) .e .e) .e) .e))))) (.n none (.n none (.n none (.n none (.n none (.n none (.n (some c128) .e .e) .e) .e) (.n none (.n none (.n (some c144) .e .e) .e) .e)) .e) (.n none (.n none (.n none (.n (some c68) .e .e) .e) (.n none (.n (some c84) .e .e) .e)) (.n (some c28) .e .e))) (.n none (.n none (.n none (.n none (.n (some c66) (.n (some c130) .e .e) .e) (.n none (.n (some c162) .e .e) .e)) (.n none (.n (some c82) .e .e) (.n (some c114) .e .e))) .e) (.n none (.n none (.n none (.n (some c70) .e .e) .e) (.n none (.n (some c86) (.n (some c150) .e .e) .e) .e)) (.n none (.n none (.n none (.n (some c142) .e .e) .e) .e) (.n (some c62) .e (.n (some c126) .e .e)))))))
theorem tabU_eq : tabU = (((((((((((((((((((((((((((((Tr.e.set 21 c21).set 25 c25).set 28 c28).set 62 c62).set 63 c63).set 65 c65).set 66 c66).set 68 c68).set 70 c70).set 82 c82).set 83 c83).set 84 c84).set 86 c86).set 113 c113).set 114 c114).set 115 c115).set 126 c126).set 128 c128).set 130 c130).set 141 c141).set 142 c142).set 143 c143).set 144 c144).set 149 c149).set 150 c150).set 157 c157).set 159 c159).set 161 c161).set 162 c162) := by kernel_rfl
theorem tabU_ok : TabOk Try.prog tabU := tabU_eq ▸ ((((((((((((((((((((((((((((((TabOk.e Try.prog).set c21_eq).set c25_eq).set c28_eq).set c62_eq).set c63_eq).set c65_eq).set c66_eq).set c68_eq).set c70_eq).set c82_eq).set c83_eq).set c84_eq).set c86_eq).set c113_eq).set c114_eq).set c115_eq).set c126_eq).set c128_eq).set c130_eq).set c141_eq).set c142_eq).set c143_eq).set c144_eq).set c149_eq).set c150_eq).set c157_eq).set c159_eq).set c161_eq).set c162_eq)
theorem k21_run : isT (run (fun _ => []) tabU 1000 (.func 21) [] ⟨.e, 0⟩) = true := by kernel_rfl
theorem k21_const (S : Sta) (h : S.P = Try.prog) (w0 : World) : ConstOk S w0 21 (.bool true) := const_of_run tabU_ok k21_run h w0
noncomputable def tab : Tr FnI := (.n none (.n none (.n none (.n (some c7) (.n none (.n (some c31) (.n (some c63) (.n (some c127) .e .e) .e) (.n none (.n (some c159) .e .e) .e)) (.n none (.n (some c79) (.n (some c143) .e .e) .e) .e)) (.n (some c23) (.n none (.n (some c71) .e .e) (.n none (.n (some c167) .e .e) .e)) (.n none (.n (some c87) .e .e) (.n (some c119) .e .e)))) (.n none (.n (some c19) (.n none (.n (some c67) (.n (some c131) .e .e) .e) .e) (.n none (.n (some c83) (.n (some c147) .e .e) .e) (.n (some c115) .e .e))) (.n (some c27) (.n none (.n (some c75) .e .e) .e) (.n none .e (.n (some c123) .e .e))))) (.n (some c5) (.n none (.n none (.n none (.n (some c65) (.n (some c129) .e .e) .e) (.n none (.n (some c161) .e .e) .e)) (.n none (.n (some c81) (.n (some c145) .e .e) .e) (.n (some c113) .e .e))) (.n (some c25) (.n none (.n (some c73) .e .e) .e) (.n none (.n (some c89) .e .e) (.n (some c121) .e .e)))) (.n none (.n (some (constFn (.bool true))) (.n none (.n (some c69) .e .e) (.n none (.n (some c165) .e .e) .e)) (.n none (.n (some c85) (.n (some c149) .e .e) .e) (.n (some c117) .e .e))) (.n (some c29) (.n none (.n (some c77) (.n (some c141) .e .e) .e) .e) (.n (some c61) (.n none (.n (some c157) .e .e) .e) (.n (some c125) .e .e)))))) (.n none (.n (some c4) (.n (some c8) (.n none (.n (some c32) (.n (some c64) (.n (some c128) .e .e) .e) (.n none (.n (some c160) .e .e) .e)) (.n none (.n (some c80) (.n (some c144) .e .e) .e) .e)) (.n (some c24) (.n none (.n (some c72) .e .e) .e) (.n (some c56) (.n (some c88) .e .e) (.n (some c120) .e .e)))) (.n none (.n (some c20) (.n none (.n (some c68) .e .e) (.n none (.n (some c164) .e .e) .e)) (.n none (.n (some c84) (.n (some c148) .e .e) .e) (.n (some c116) .e .e))) (.n (some c28) (.n none (.n (some c76) .e .e) .e) (.n none .e (.n (some c124) .e .e))))) (.n (some c6) (.n none (.n none (.n none (.n (some c66) (.n (some c130) .e .e) .e) (.n none (.n (some c162) .e .e) .e)) (.n none (.n (some c82) (.n (some c146) .e .e) .e) (.n (some c114) .e .e))) (.n (some c26) (.n none (.n (some c74) .e .e) .e) (.n none .e (.n (some c122) .e .e)))) (.n none (.n (some c22) (.n none (.n (some c70) .e .e) .e) (.n none (.n (some c86) (.n (some c150) .e .e) .e) (.n (some c118) .e .e))) (.n (some c30) (.n none (.n (some c78) (.n (some c142) .e .e) .e) .e) (.n (some c62) (.n none (.n (some c158) .e .e) .e) (.n (some c126) .e .e)))))))
theorem tab_eq : tab = (((((((((((((((((((((((((((((((((((((((((((((((((((((((((((((((((((((((((((((((((((((((Tr.e.set 4 c4).set 5 c5).set 6 c6).set 7 c7).set 8 c8).set 19 c19).set 20 c20).set 22 c22).set 23 c23).set 24 c24).set 25 c25).set 26 c26).set 27 c27).set 28 c28).set 29 c29).set 30 c30).set 31 c31).set 32 c32).set 56 c56).set 61 c61).set 62 c62).set 63 c63).set 64 c64).set 65 c65).set 66 c66).set 67 c67).set 68 c68).set 69 c69).set 70 c70).set 71 c71).set 72 c72).set 73 c73).set 74 c74).set 75 c75).set 76 c76).set 77 c77).set 78 c78).set 79 c79).set 80 c80).set 81 c81).set 82 c82).set 83 c83).set 84 c84).set 85 c85).set 86 c86).set 87 c87).set 88 c88).set 89 c89).set 113 c113).set 114 c114).set 115 c115).set 116 c116).set 117 c117).set 118 c118).set 119 c119).set 120 c120).set 121 c121).set 122 c122).set 123 c123).set 124 c124).set 125 c125).set 126 c126).set 127 c127).set 128 c128).set 129 c129).set 130 c130).set 131 c131).set 141 c141).set 142 c142).set 143 c143).set 144 c144).set 145 c145).set 146 c146).set 147 c147).set 148 c148).set 149 c149).set 150 c150).set 157 c157).set 158 c158).set 159 c159).set 160 c160).set 161 c161).set 162 c162).set 164 c164).set 165 c165).set 167 c167).set 21 (constFn (.bool true))) := by kernel_rfl
theorem tab_s (S : Sta) (w0 : World) (h : S.P = Try.prog) : TabS S w0 tab := by
  obtain ⟨P, B, ro, tok⟩ := S
  simp only at h
  subst h
  exact tab_eq ▸ ((((((((((((((((((((((((((((((((((((((((((((((((((((((((((((((((((((((((((((((((((((((((TabS.e ⟨Try.prog, B, ro, tok⟩ w0).set (f := 4) c4_eq).set (f := 5) c5_eq).set (f := 6) c6_eq).set (f := 7) c7_eq).set (f := 8) c8_eq).set (f := 19) c19_eq).set (f := 20) c20_eq).set (f := 22) c22_eq).set (f := 23) c23_eq).set (f := 24) c24_eq).set (f := 25) c25_eq).set (f := 26) c26_eq).set (f := 27) c27_eq).set (f := 28) c28_eq).set (f := 29) c29_eq).set (f := 30) c30_eq).set (f := 31) c31_eq).set (f := 32) c32_eq).set (f := 56) c56_eq).set (f := 61) c61_eq).set (f := 62) c62_eq).set (f := 63) c63_eq).set (f := 64) c64_eq).set (f := 65) c65_eq).set (f := 66) c66_eq).set (f := 67) c67_eq).set (f := 68) c68_eq).set (f := 69) c69_eq).set (f := 70) c70_eq).set (f := 71) c71_eq).set (f := 72) c72_eq).set (f := 73) c73_eq).set (f := 74) c74_eq).set (f := 75) c75_eq).set (f := 76) c76_eq).set (f := 77) c77_eq).set (f := 78) c78_eq).set (f := 79) c79_eq).set (f := 80) c80_eq).set (f := 81) c81_eq).set (f := 82) c82_eq).set (f := 83) c83_eq).set (f := 84) c84_eq).set (f := 85) c85_eq).set (f := 86) c86_eq).set (f := 87) c87_eq).set (f := 88) c88_eq).set (f := 89) c89_eq).set (f := 113) c113_eq).set (f := 114) c114_eq).set (f := 115) c115_eq).set (f := 116) c116_eq).set (f := 117) c117_eq).set (f := 118) c118_eq).set (f := 119) c119_eq).set (f := 120) c120_eq).set (f := 121) c121_eq).set (f := 122) c122_eq).set (f := 123) c123_eq).set (f := 124) c124_eq).set (f := 125) c125_eq).set (f := 126) c126_eq).set (f := 127) c127_eq).set (f := 128) c128_eq).set (f := 129) c129_eq).set (f := 130) c130_eq).set (f := 131) c131_eq).set (f := 141) c141_eq).set (f := 142) c142_eq).set (f := 143) c143_eq).set (f := 144) c144_eq).set (f := 145) c145_eq).set (f := 146) c146_eq).set (f := 147) c147_eq).set (f := 148) c148_eq).set (f := 149) c149_eq).set (f := 150) c150_eq).set (f := 157) c157_eq).set (f := 158) c158_eq).set (f := 159) c159_eq).set (f := 160) c160_eq).set (f := 161) c161_eq).set (f := 162) c162_eq).set (f := 164) c164_eq).set (f := 165) c165_eq).set (f := 167) c167_eq).const (k21_const _ rfl w0))
theorem g4 : tab.get 4 = some c4 := by kernel_rfl
theorem g5 : tab.get 5 = some c5 := by kernel_rfl
theorem g6 : tab.get 6 = some c6 := by kernel_rfl
theorem g7 : tab.get 7 = some c7 := by kernel_rfl
theorem g8 : tab.get 8 = some c8 := by kernel_rfl
theorem g19 : tab.get 19 = some c19 := by kernel_rfl
theorem g20 : tab.get 20 = some c20 := by kernel_rfl
theorem g22 : tab.get 22 = some c22 := by kernel_rfl
theorem g23 : tab.get 23 = some c23 := by kernel_rfl
theorem g24 : tab.get 24 = some c24 := by kernel_rfl
theorem g25 : tab.get 25 = some c25 := by kernel_rfl
theorem g26 : tab.get 26 = some c26 := by kernel_rfl
theorem g27 : tab.get 27 = some c27 := by kernel_rfl
theorem g28 : tab.get 28 = some c28 := by kernel_rfl
theorem g29 : tab.get 29 = some c29 := by kernel_rfl
theorem g30 : tab.get 30 = some c30 := by kernel_rfl
theorem g31 : tab.get 31 = some c31 := by kernel_rfl
theorem g32 : tab.get 32 = some c32 := by kernel_rfl
theorem g56 : tab.get 56 = some c56 := by kernel_rfl
theorem g61 : tab.get 61 = some c61 := by kernel_rfl
theorem g62 : tab.get 62 = some c62 := by kernel_rfl
theorem g63 : tab.get 63 = some c63 := by kernel_rfl
theorem g64 : tab.get 64 = some c64 := by kernel_rfl
theorem g65 : tab.get 65 = some c65 := by kernel_rfl
theorem g66 : tab.get 66 = some c66 := by kernel_rfl
theorem g67 : tab.get 67 = some c67 := by kernel_rfl
theorem g68 : tab.get 68 = some c68 := by kernel_rfl
theorem g69 : tab.get 69 = some c69 := by kernel_rfl
theorem g70 : tab.get 70 = some c70 := by kernel_rfl
theorem g71 : tab.get 71 = some c71 := by kernel_rfl
theorem g72 : tab.get 72 = some c72 := by kernel_rfl
theorem g73 : tab.get 73 = some c73 := by kernel_rfl
theorem g74 : tab.get 74 = some c74 := by kernel_rfl
theorem g75 : tab.get 75 = some c75 := by kernel_rfl
theorem g76 : tab.get 76 = some c76 := by kernel_rfl
theorem g77 : tab.get 77 = some c77 := by kernel_rfl
theorem g78 : tab.get 78 = some c78 := by kernel_rfl
theorem g79 : tab.get 79 = some c79 := by kernel_rfl
theorem g80 : tab.get 80 = some c80 := by kernel_rfl
theorem g81 : tab.get 81 = some c81 := by kernel_rfl
theorem g82 : tab.get 82 = some c82 := by kernel_rfl
theorem g83 : tab.get 83 = some c83 := by kernel_rfl
theorem g84 : tab.get 84 = some c84 := by kernel_rfl
theorem g85 : tab.get 85 = some c85 := by kernel_rfl
theorem g86 : tab.get 86 = some c86 := by kernel_rfl
theorem g87 : tab.get 87 = some c87 := by kernel_rfl
theorem g88 : tab.get 88 = some c88 := by kernel_rfl
theorem g89 : tab.get 89 = some c89 := by kernel_rfl
theorem g113 : tab.get 113 = some c113 := by kernel_rfl
theorem g114 : tab.get 114 = some c114 := by kernel_rfl
theorem g115 : tab.get 115 = some c115 := by kernel_rfl
theorem g116 : tab.get 116 = some c116 := by kernel_rfl
theorem g117 : tab.get 117 = some c117 := by kernel_rfl
theorem g118 : tab.get 118 = some c118 := by kernel_rfl
theorem g119 : tab.get 119 = some c119 := by kernel_rfl
theorem g120 : tab.get 120 = some c120 := by kernel_rfl
theorem g121 : tab.get 121 = some c121 := by kernel_rfl
theorem g122 : tab.get 122 = some c122 := by kernel_rfl
theorem g123 : tab.get 123 = some c123 := by kernel_rfl
theorem g124 : tab.get 124 = some c124 := by kernel_rfl
theorem g125 : tab.get 125 = some c125 := by kernel_rfl
theorem g126 : tab.get 126 = some c126 := by kernel_rfl
theorem g127 : tab.get 127 = some c127 := by kernel_rfl
theorem g128 : tab.get 128 = some c128 := by kernel_rfl
theorem g129 : tab.get 129 = some c129 := by kernel_rfl
theorem g130 : tab.get 130 = some c130 := by kernel_rfl
theorem g131 : tab.get 131 = some c131 := by kernel_rfl
theorem g141 : tab.get 141 = some c141 := by kernel_rfl
theorem g142 : tab.get 142 = some c142 := by kernel_rfl
theorem g143 : tab.get 143 = some c143 := by kernel_rfl
theorem g144 : tab.get 144 = some c144 := by kernel_rfl
theorem g145 : tab.get 145 = some c145 := by kernel_rfl
theorem g146 : tab.get 146 = some c146 := by kernel_rfl
theorem g147 : tab.get 147 = some c147 := by kernel_rfl
theorem g148 : tab.get 148 = some c148 := by kernel_rfl
theorem g149 : tab.get 149 = some c149 := by kernel_rfl
theorem g150 : tab.get 150 = some c150 := by kernel_rfl
theorem g157 : tab.get 157 = some c157 := by kernel_rfl
theorem g158 : tab.get 158 = some c158 := by kernel_rfl
theorem g159 : tab.get 159 = some c159 := by kernel_rfl
theorem g160 : tab.get 160 = some c160 := by kernel_rfl
theorem g161 : tab.get 161 = some c161 := by kernel_rfl
theorem g162 : tab.get 162 = some c162 := by kernel_rfl
theorem g164 : tab.get 164 = some c164 := by kernel_rfl
theorem g165 : tab.get 165 = some c165 := by kernel_rfl
theorem g167 : tab.get 167 = some c167 := by kernel_rfl
theorem g21 : tab.get 21 = some (constFn (.bool true)) := by kernel_rfl
end Go.Proofs.Ytlfhlkndccjejaa.KV

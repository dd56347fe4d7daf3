import Derived.Test.Qxb6500749aLz3
import Derived.Test.Qxb6500749aLy3
import Derived.Test.Qxb6500749aAlr
import Derived.Test.Qxb6500749aLw10
namespace Go.Proofs.Qxb6500749a
open Go.RowKit
attribute [local go_sem] put_size put_cell_same put_cell_ne put_frozen_same put_frozen_ne put_setCell_same put_setCell_ne put_drew
attribute [local go_sem] drewN_setCell drewN_alloc drewN_put
/-! ### Law 3: the layer refines its model -/
def fr3 (rg mb n j : Nat) (u : Nat → Value) : Act :=
  { tmps := ((u 0) :: (u 1) :: (u 2) :: (.pointer (some ⟨rg, 0, none⟩)) :: (.pointer (some ⟨mb, 0, none⟩)) :: (u 5) :: (u 6) :: (u 7) :: (u 8) :: (u 9) :: (u 10) :: (u 11) :: (u 12) :: (u 13) :: (u 14) :: (u 15) :: (u 16) :: (u 17) :: (u 18) :: (u 19) :: (u 20) :: (u 21) :: (u 22) :: (u 23) :: (u 24) :: (u 25) :: (u 26) :: (u 27) :: (u 28) :: (u 29) :: (u 30) :: (u 31) :: (u 32) :: (u 33) :: (u 34) :: (u 35) :: (u 36) :: (u 37) :: (u 38) :: (u 39) :: (u 40) :: (u 41) :: (u 42) :: (u 43) :: (.int .i64 (n : Nat)) :: (.int .i64 (j : Nat)) :: (u 46) :: (u 47) :: (u 48) :: (u 49) :: (u 50) :: (u 51) :: (u 52) :: (u 53) :: (u 54) :: (u 55) :: (u 56) :: (u 57) :: (u 58) :: (u 59) :: (u 60) :: (u 61) :: (u 62) :: (u 63) :: (u 64) :: (u 65) :: (u 66) :: (u 67) :: (u 68) :: (u 69) :: (u 70) :: (u 71) :: (u 72) :: (u 73) :: (u 74) :: (u 75) :: (u 76) :: (u 77) :: (u 78) :: (u 79) :: (u 80) :: (u 81) :: (u 82) :: (u 83) :: (u 84) :: (u 85) :: (u 86) :: (u 87) :: (u 88) :: (u 89) :: (u 90) :: (u 91) :: (u 92) :: (u 93) :: (u 94) :: (u 95) :: (u 96) :: (u 97) :: (u 98) :: (u 99) :: (u 100) :: (u 101) :: (u 102) :: (u 103) :: (u 104) :: (u 105) :: (u 106) :: (u 107) :: (u 108) :: (u 109) :: (u 110) :: (u 111) :: (u 112) :: (u 113) :: (u 114) :: (u 115) :: (u 116) :: (u 117) :: (u 118) :: (u 119) :: (u 120) :: (u 121) :: (u 122) :: (u 123) :: (u 124) :: (u 125) :: (u 126) :: (u 127) :: (u 128) :: (u 129) :: (u 130) :: (u 131) :: (u 132) :: (u 133) :: (u 134) :: (u 135) :: (u 136) :: (u 137) :: (u 138) :: (u 139) :: (u 140) :: (u 141) :: (u 142) :: (u 143) :: (u 144) :: (u 145) :: (u 146) :: (u 147) :: (u 148) :: (u 149) :: (u 150) :: (u 151) :: (u 152) :: (u 153) :: (u 154) :: (u 155) :: (u 156) :: (u 157) :: (u 158) :: (u 159) :: (u 160) :: (u 161) :: (u 162) :: (u 163) :: (u 164) :: (u 165) :: (u 166) :: (u 167) :: (u 168) :: (u 169) :: (u 170) :: (u 171) :: (u 172) :: (u 173) :: (u 174) :: (u 175) :: (u 176) :: (u 177) :: (u 178) :: (u 179) :: (u 180) :: (u 181) :: (u 182) :: (u 183) :: (u 184) :: (u 185) :: (u 186) :: (u 187) :: (u 188) :: (u 189) :: (u 190) :: (u 191) :: (u 192) :: (u 193) :: (u 194) :: (u 195) :: (u 196) :: (u 197) :: (u 198) :: (u 199) :: (u 200) :: (u 201) :: (u 202) :: (u 203) :: (u 204) :: (u 205) :: (u 206) :: (u 207) :: (u 208) :: (u 209) :: (u 210) :: (u 211) :: (u 212) :: (u 213) :: (u 214) :: (u 215) :: (u 216) :: (u 217) :: (u 218) :: (u 219) :: (u 220) :: (u 221) :: (u 222) :: (u 223) :: (u 224) :: (u 225) :: (u 226) :: (u 227) :: (u 228) :: (u 229) :: (u 230) :: (u 231) :: (u 232) :: (u 233) :: (u 234) :: (u 235) :: (u 236) :: (u 237) :: (u 238) :: (u 239) :: (u 240) :: (u 241) :: (u 242) :: (u 243) :: (u 244) :: (u 245) :: (u 246) :: (u 247) :: (u 248) :: (u 249) :: [] : List Value).toArray, defers := [] }
def fr3y (rg mb : Nat) (z : Bool) (u : Nat → Value) : Act :=
  { tmps := ((u 0) :: (u 1) :: (u 2) :: (.pointer (some ⟨rg, 0, none⟩)) :: (.pointer (some ⟨mb, 0, none⟩)) :: (u 5) :: (u 6) :: (u 7) :: (u 8) :: (u 9) :: (u 10) :: (u 11) :: (u 12) :: (u 13) :: (u 14) :: (u 15) :: (u 16) :: (u 17) :: (u 18) :: (u 19) :: (u 20) :: (u 21) :: (u 22) :: (u 23) :: (u 24) :: (u 25) :: (u 26) :: (u 27) :: (u 28) :: (u 29) :: (u 30) :: (u 31) :: (u 32) :: (u 33) :: (u 34) :: (u 35) :: (u 36) :: (u 37) :: (u 38) :: (u 39) :: (u 40) :: (u 41) :: (u 42) :: (u 43) :: (u 44) :: (u 45) :: (u 46) :: (u 47) :: (u 48) :: (u 49) :: (u 50) :: (u 51) :: (u 52) :: (u 53) :: (u 54) :: (u 55) :: (u 56) :: (u 57) :: (u 58) :: (u 59) :: (u 60) :: (u 61) :: (u 62) :: (u 63) :: (u 64) :: (u 65) :: (u 66) :: (u 67) :: (u 68) :: (u 69) :: (u 70) :: (.bool z) :: (u 72) :: (u 73) :: (u 74) :: (u 75) :: (u 76) :: (u 77) :: (u 78) :: (u 79) :: (u 80) :: (u 81) :: (u 82) :: (u 83) :: (u 84) :: (u 85) :: (u 86) :: (u 87) :: (u 88) :: (u 89) :: (u 90) :: (u 91) :: (u 92) :: (u 93) :: (u 94) :: (u 95) :: (u 96) :: (u 97) :: (u 98) :: (u 99) :: (u 100) :: (u 101) :: (u 102) :: (u 103) :: (u 104) :: (u 105) :: (u 106) :: (u 107) :: (u 108) :: (u 109) :: (u 110) :: (u 111) :: (u 112) :: (u 113) :: (u 114) :: (u 115) :: (u 116) :: (u 117) :: (u 118) :: (u 119) :: (u 120) :: (u 121) :: (u 122) :: (u 123) :: (u 124) :: (u 125) :: (u 126) :: (u 127) :: (u 128) :: (u 129) :: (u 130) :: (u 131) :: (u 132) :: (u 133) :: (u 134) :: (u 135) :: (u 136) :: (u 137) :: (u 138) :: (u 139) :: (u 140) :: (u 141) :: (u 142) :: (u 143) :: (u 144) :: (u 145) :: (u 146) :: (u 147) :: (u 148) :: (u 149) :: (u 150) :: (u 151) :: (u 152) :: (u 153) :: (u 154) :: (u 155) :: (u 156) :: (u 157) :: (u 158) :: (u 159) :: (u 160) :: (u 161) :: (u 162) :: (u 163) :: (u 164) :: (u 165) :: (u 166) :: (u 167) :: (u 168) :: (u 169) :: (u 170) :: (u 171) :: (u 172) :: (u 173) :: (u 174) :: (u 175) :: (u 176) :: (u 177) :: (u 178) :: (u 179) :: (u 180) :: (u 181) :: (u 182) :: (u 183) :: (u 184) :: (u 185) :: (u 186) :: (u 187) :: (u 188) :: (u 189) :: (u 190) :: (u 191) :: (u 192) :: (u 193) :: (u 194) :: (u 195) :: (u 196) :: (u 197) :: (u 198) :: (u 199) :: (u 200) :: (u 201) :: (u 202) :: (u 203) :: (u 204) :: (u 205) :: (u 206) :: (u 207) :: (u 208) :: (u 209) :: (u 210) :: (u 211) :: (u 212) :: (u 213) :: (u 214) :: (u 215) :: (u 216) :: (u 217) :: (u 218) :: (u 219) :: (u 220) :: (u 221) :: (u 222) :: (u 223) :: (u 224) :: (u 225) :: (u 226) :: (u 227) :: (u 228) :: (u 229) :: (u 230) :: (u 231) :: (u 232) :: (u 233) :: (u 234) :: (u 235) :: (u 236) :: (u 237) :: (u 238) :: (u 239) :: (u 240) :: (u 241) :: (u 242) :: (u 243) :: (u 244) :: (u 245) :: (u 246) :: (u 247) :: (u 248) :: (u 249) :: [] : List Value).toArray, defers := [] }
def fr3c (rg : Nat) (u : Nat → Value) : Act :=
  { tmps := ((u 0) :: (u 1) :: (u 2) :: (.pointer (some ⟨rg, 0, none⟩)) :: (u 4) :: (u 5) :: (u 6) :: (u 7) :: (u 8) :: (u 9) :: (u 10) :: (u 11) :: (u 12) :: (u 13) :: (u 14) :: (u 15) :: (u 16) :: (u 17) :: (u 18) :: (u 19) :: (u 20) :: (u 21) :: (u 22) :: (u 23) :: (u 24) :: (u 25) :: (u 26) :: (u 27) :: (u 28) :: (u 29) :: (u 30) :: (u 31) :: (u 32) :: (u 33) :: (u 34) :: (u 35) :: (u 36) :: (u 37) :: (u 38) :: (u 39) :: (u 40) :: (u 41) :: (u 42) :: (u 43) :: (u 44) :: (u 45) :: (u 46) :: (u 47) :: (u 48) :: (u 49) :: (u 50) :: (u 51) :: (u 52) :: (u 53) :: (u 54) :: (u 55) :: (u 56) :: (u 57) :: (u 58) :: (u 59) :: (u 60) :: (u 61) :: (u 62) :: (u 63) :: (u 64) :: (u 65) :: (u 66) :: (u 67) :: (u 68) :: (u 69) :: (u 70) :: (u 71) :: (u 72) :: (u 73) :: (u 74) :: (u 75) :: (u 76) :: (u 77) :: (u 78) :: (u 79) :: (u 80) :: (u 81) :: (u 82) :: (u 83) :: (u 84) :: (u 85) :: (u 86) :: (u 87) :: (u 88) :: (u 89) :: (u 90) :: (u 91) :: (u 92) :: (u 93) :: (u 94) :: (u 95) :: (u 96) :: (u 97) :: (u 98) :: (u 99) :: (u 100) :: (u 101) :: (u 102) :: (u 103) :: (u 104) :: (u 105) :: (u 106) :: (u 107) :: (u 108) :: (u 109) :: (u 110) :: (u 111) :: (u 112) :: (u 113) :: (u 114) :: (u 115) :: (u 116) :: (u 117) :: (u 118) :: (u 119) :: (u 120) :: (u 121) :: (u 122) :: (u 123) :: (u 124) :: (u 125) :: (u 126) :: (u 127) :: (u 128) :: (u 129) :: (u 130) :: (u 131) :: (u 132) :: (u 133) :: (u 134) :: (u 135) :: (u 136) :: (u 137) :: (u 138) :: (u 139) :: (u 140) :: (u 141) :: (u 142) :: (u 143) :: (u 144) :: (u 145) :: (u 146) :: (u 147) :: (u 148) :: (u 149) :: (u 150) :: (u 151) :: (u 152) :: (u 153) :: (u 154) :: (u 155) :: (u 156) :: (u 157) :: (u 158) :: (u 159) :: (u 160) :: (u 161) :: (u 162) :: (u 163) :: (u 164) :: (u 165) :: (u 166) :: (u 167) :: (u 168) :: (u 169) :: (u 170) :: (u 171) :: (u 172) :: (u 173) :: (u 174) :: (u 175) :: (u 176) :: (u 177) :: (u 178) :: (u 179) :: (u 180) :: (u 181) :: (u 182) :: (u 183) :: (u 184) :: (u 185) :: (u 186) :: (u 187) :: (u 188) :: (u 189) :: (u 190) :: (u 191) :: (u 192) :: (u 193) :: (u 194) :: (u 195) :: (u 196) :: (u 197) :: (u 198) :: (u 199) :: (u 200) :: (u 201) :: (u 202) :: (u 203) :: (u 204) :: (u 205) :: (u 206) :: (u 207) :: (u 208) :: (u 209) :: (u 210) :: (u 211) :: (u 212) :: (u 213) :: (u 214) :: (u 215) :: (u 216) :: (u 217) :: (u 218) :: (u 219) :: (u 220) :: (u 221) :: (u 222) :: (u 223) :: (u 224) :: (u 225) :: (u 226) :: (u 227) :: (u 228) :: (u 229) :: (u 230) :: (u 231) :: (u 232) :: (u 233) :: (u 234) :: (u 235) :: (u 236) :: (u 237) :: (u 238) :: (u 239) :: (u 240) :: (u 241) :: (u 242) :: (u 243) :: (u 244) :: (u 245) :: (u 246) :: (u 247) :: (u 248) :: (u 249) :: [] : List Value).toArray, defers := [] }
def fr3d (rg : Nat) (dv : Bool) (u : Nat → Value) : Act :=
  { tmps := ((u 0) :: (u 1) :: (u 2) :: (.pointer (some ⟨rg, 0, none⟩)) :: (u 4) :: (u 5) :: (u 6) :: (.bool dv) :: (u 8) :: (u 9) :: (u 10) :: (u 11) :: (u 12) :: (u 13) :: (u 14) :: (u 15) :: (u 16) :: (u 17) :: (u 18) :: (u 19) :: (u 20) :: (u 21) :: (u 22) :: (u 23) :: (u 24) :: (u 25) :: (u 26) :: (u 27) :: (u 28) :: (u 29) :: (u 30) :: (u 31) :: (u 32) :: (u 33) :: (u 34) :: (u 35) :: (u 36) :: (u 37) :: (u 38) :: (u 39) :: (u 40) :: (u 41) :: (u 42) :: (u 43) :: (u 44) :: (u 45) :: (u 46) :: (u 47) :: (u 48) :: (u 49) :: (u 50) :: (u 51) :: (u 52) :: (u 53) :: (u 54) :: (u 55) :: (u 56) :: (u 57) :: (u 58) :: (u 59) :: (u 60) :: (u 61) :: (u 62) :: (u 63) :: (u 64) :: (u 65) :: (u 66) :: (u 67) :: (u 68) :: (u 69) :: (u 70) :: (u 71) :: (u 72) :: (u 73) :: (u 74) :: (u 75) :: (u 76) :: (u 77) :: (u 78) :: (u 79) :: (u 80) :: (u 81) :: (u 82) :: (u 83) :: (u 84) :: (u 85) :: (u 86) :: (u 87) :: (u 88) :: (u 89) :: (u 90) :: (u 91) :: (u 92) :: (u 93) :: (u 94) :: (u 95) :: (u 96) :: (u 97) :: (u 98) :: (u 99) :: (u 100) :: (u 101) :: (u 102) :: (u 103) :: (u 104) :: (u 105) :: (u 106) :: (u 107) :: (u 108) :: (u 109) :: (u 110) :: (u 111) :: (u 112) :: (u 113) :: (u 114) :: (u 115) :: (u 116) :: (u 117) :: (u 118) :: (u 119) :: (u 120) :: (u 121) :: (u 122) :: (u 123) :: (u 124) :: (u 125) :: (u 126) :: (u 127) :: (u 128) :: (u 129) :: (u 130) :: (u 131) :: (u 132) :: (u 133) :: (u 134) :: (u 135) :: (u 136) :: (u 137) :: (u 138) :: (u 139) :: (u 140) :: (u 141) :: (u 142) :: (u 143) :: (u 144) :: (u 145) :: (u 146) :: (u 147) :: (u 148) :: (u 149) :: (u 150) :: (u 151) :: (u 152) :: (u 153) :: (u 154) :: (u 155) :: (u 156) :: (u 157) :: (u 158) :: (u 159) :: (u 160) :: (u 161) :: (u 162) :: (u 163) :: (u 164) :: (u 165) :: (u 166) :: (u 167) :: (u 168) :: (u 169) :: (u 170) :: (u 171) :: (u 172) :: (u 173) :: (u 174) :: (u 175) :: (u 176) :: (u 177) :: (u 178) :: (u 179) :: (u 180) :: (u 181) :: (u 182) :: (u 183) :: (u 184) :: (u 185) :: (u 186) :: (u 187) :: (u 188) :: (u 189) :: (u 190) :: (u 191) :: (u 192) :: (u 193) :: (u 194) :: (u 195) :: (u 196) :: (u 197) :: (u 198) :: (u 199) :: (u 200) :: (u 201) :: (u 202) :: (u 203) :: (u 204) :: (u 205) :: (u 206) :: (u 207) :: (u 208) :: (u 209) :: (u 210) :: (u 211) :: (u 212) :: (u 213) :: (u 214) :: (u 215) :: (u 216) :: (u 217) :: (u 218) :: (u 219) :: (u 220) :: (u 221) :: (u 222) :: (u 223) :: (u 224) :: (u 225) :: (u 226) :: (u 227) :: (u 228) :: (u 229) :: (u 230) :: (u 231) :: (u 232) :: (u 233) :: (u 234) :: (u 235) :: (u 236) :: (u 237) :: (u 238) :: (u 239) :: (u 240) :: (u 241) :: (u 242) :: (u 243) :: (u 244) :: (u 245) :: (u 246) :: (u 247) :: (u 248) :: (u 249) :: [] : List Value).toArray, defers := [] }
def fr3n (rg : Nat) (dv nv : Bool) (u : Nat → Value) : Act :=
  { tmps := ((u 0) :: (u 1) :: (u 2) :: (.pointer (some ⟨rg, 0, none⟩)) :: (u 4) :: (u 5) :: (u 6) :: (.bool dv) :: (u 8) :: (u 9) :: (u 10) :: (u 11) :: (u 12) :: (u 13) :: (u 14) :: (u 15) :: (u 16) :: (u 17) :: (u 18) :: (u 19) :: (u 20) :: (u 21) :: (u 22) :: (u 23) :: (u 24) :: (u 25) :: (u 26) :: (u 27) :: (u 28) :: (u 29) :: (u 30) :: (u 31) :: (u 32) :: (u 33) :: (u 34) :: (u 35) :: (u 36) :: (u 37) :: (u 38) :: (u 39) :: (u 40) :: (u 41) :: (u 42) :: (u 43) :: (u 44) :: (u 45) :: (u 46) :: (u 47) :: (u 48) :: (u 49) :: (u 50) :: (u 51) :: (u 52) :: (u 53) :: (u 54) :: (u 55) :: (u 56) :: (u 57) :: (u 58) :: (u 59) :: (u 60) :: (u 61) :: (u 62) :: (u 63) :: (u 64) :: (u 65) :: (u 66) :: (u 67) :: (u 68) :: (u 69) :: (u 70) :: (u 71) :: (u 72) :: (u 73) :: (u 74) :: (u 75) :: (u 76) :: (u 77) :: (u 78) :: (u 79) :: (u 80) :: (u 81) :: (u 82) :: (u 83) :: (u 84) :: (u 85) :: (u 86) :: (u 87) :: (u 88) :: (u 89) :: (u 90) :: (u 91) :: (u 92) :: (u 93) :: (u 94) :: (u 95) :: (u 96) :: (u 97) :: (u 98) :: (u 99) :: (u 100) :: (u 101) :: (u 102) :: (u 103) :: (u 104) :: (u 105) :: (u 106) :: (u 107) :: (u 108) :: (u 109) :: (u 110) :: (u 111) :: (u 112) :: (u 113) :: (u 114) :: (u 115) :: (u 116) :: (u 117) :: (u 118) :: (u 119) :: (u 120) :: (u 121) :: (u 122) :: (u 123) :: (u 124) :: (u 125) :: (u 126) :: (u 127) :: (u 128) :: (u 129) :: (u 130) :: (u 131) :: (u 132) :: (u 133) :: (u 134) :: (u 135) :: (u 136) :: (u 137) :: (u 138) :: (u 139) :: (u 140) :: (u 141) :: (u 142) :: (u 143) :: (u 144) :: (u 145) :: (u 146) :: (u 147) :: (u 148) :: (u 149) :: (u 150) :: (u 151) :: (u 152) :: (u 153) :: (u 154) :: (u 155) :: (u 156) :: (u 157) :: (u 158) :: (u 159) :: (u 160) :: (u 161) :: (u 162) :: (u 163) :: (u 164) :: (u 165) :: (u 166) :: (u 167) :: (u 168) :: (u 169) :: (u 170) :: (u 171) :: (u 172) :: (u 173) :: (u 174) :: (u 175) :: (u 176) :: (u 177) :: (u 178) :: (u 179) :: (u 180) :: (u 181) :: (u 182) :: (u 183) :: (u 184) :: (u 185) :: (u 186) :: (u 187) :: (u 188) :: (u 189) :: (u 190) :: (u 191) :: (.bool nv) :: (u 193) :: (u 194) :: (u 195) :: (u 196) :: (u 197) :: (u 198) :: (u 199) :: (u 200) :: (u 201) :: (u 202) :: (u 203) :: (u 204) :: (u 205) :: (u 206) :: (u 207) :: (u 208) :: (u 209) :: (u 210) :: (u 211) :: (u 212) :: (u 213) :: (u 214) :: (u 215) :: (u 216) :: (u 217) :: (u 218) :: (u 219) :: (u 220) :: (u 221) :: (u 222) :: (u 223) :: (u 224) :: (u 225) :: (u 226) :: (u 227) :: (u 228) :: (u 229) :: (u 230) :: (u 231) :: (u 232) :: (u 233) :: (u 234) :: (u 235) :: (u 236) :: (u 237) :: (u 238) :: (u 239) :: (u 240) :: (u 241) :: (u 242) :: (u 243) :: (u 244) :: (u 245) :: (u 246) :: (u 247) :: (u 248) :: (u 249) :: [] : List Value).toArray, defers := [] }
def fr3p (rg : Nat) (ga : Option Addr) (gn gc : Nat) (ms st : Int) (cv : Bool) (u : Nat → Value) : Act :=
  { tmps := ((u 0) :: (u 1) :: (u 2) :: (.pointer (some ⟨rg, 0, none⟩)) :: (u 4) :: (u 5) :: (u 6) :: (u 7) :: (.slice ga gn gc) :: (.int .u8 ms) :: (.int .u8 st) :: (.bool cv) :: (u 12) :: (u 13) :: (u 14) :: (u 15) :: (u 16) :: (u 17) :: (u 18) :: (u 19) :: (u 20) :: (u 21) :: (u 22) :: (u 23) :: (u 24) :: (u 25) :: (u 26) :: (u 27) :: (u 28) :: (u 29) :: (u 30) :: (u 31) :: (u 32) :: (u 33) :: (u 34) :: (u 35) :: (u 36) :: (u 37) :: (u 38) :: (u 39) :: (u 40) :: (u 41) :: (u 42) :: (u 43) :: (u 44) :: (u 45) :: (u 46) :: (u 47) :: (u 48) :: (u 49) :: (u 50) :: (u 51) :: (u 52) :: (u 53) :: (u 54) :: (u 55) :: (u 56) :: (u 57) :: (u 58) :: (u 59) :: (u 60) :: (u 61) :: (u 62) :: (u 63) :: (u 64) :: (u 65) :: (u 66) :: (u 67) :: (u 68) :: (u 69) :: (u 70) :: (u 71) :: (u 72) :: (u 73) :: (u 74) :: (u 75) :: (u 76) :: (u 77) :: (u 78) :: (u 79) :: (u 80) :: (u 81) :: (u 82) :: (u 83) :: (u 84) :: (u 85) :: (u 86) :: (u 87) :: (u 88) :: (u 89) :: (u 90) :: (u 91) :: (u 92) :: (u 93) :: (u 94) :: (u 95) :: (u 96) :: (u 97) :: (u 98) :: (u 99) :: (u 100) :: (u 101) :: (u 102) :: (u 103) :: (u 104) :: (u 105) :: (u 106) :: (u 107) :: (u 108) :: (u 109) :: (u 110) :: (u 111) :: (u 112) :: (u 113) :: (u 114) :: (u 115) :: (u 116) :: (u 117) :: (u 118) :: (u 119) :: (u 120) :: (u 121) :: (u 122) :: (u 123) :: (u 124) :: (u 125) :: (u 126) :: (u 127) :: (u 128) :: (u 129) :: (u 130) :: (u 131) :: (u 132) :: (u 133) :: (u 134) :: (u 135) :: (u 136) :: (u 137) :: (u 138) :: (u 139) :: (u 140) :: (u 141) :: (u 142) :: (u 143) :: (u 144) :: (u 145) :: (u 146) :: (u 147) :: (u 148) :: (u 149) :: (u 150) :: (u 151) :: (u 152) :: (u 153) :: (u 154) :: (u 155) :: (u 156) :: (u 157) :: (u 158) :: (u 159) :: (u 160) :: (u 161) :: (u 162) :: (u 163) :: (u 164) :: (u 165) :: (u 166) :: (u 167) :: (u 168) :: (u 169) :: (u 170) :: (u 171) :: (u 172) :: (u 173) :: (u 174) :: (u 175) :: (u 176) :: (u 177) :: (u 178) :: (u 179) :: (u 180) :: (u 181) :: (u 182) :: (u 183) :: (u 184) :: (u 185) :: (u 186) :: (u 187) :: (u 188) :: (u 189) :: (u 190) :: (u 191) :: (u 192) :: (u 193) :: (u 194) :: (u 195) :: (u 196) :: (u 197) :: (u 198) :: (u 199) :: (u 200) :: (u 201) :: (u 202) :: (u 203) :: (u 204) :: (u 205) :: (u 206) :: (u 207) :: (u 208) :: (u 209) :: (u 210) :: (u 211) :: (u 212) :: (u 213) :: (u 214) :: (u 215) :: (u 216) :: (u 217) :: (u 218) :: (u 219) :: (u 220) :: (u 221) :: (u 222) :: (u 223) :: (u 224) :: (u 225) :: (u 226) :: (u 227) :: (u 228) :: (u 229) :: (u 230) :: (u 231) :: (u 232) :: (u 233) :: (u 234) :: (u 235) :: (u 236) :: (u 237) :: (u 238) :: (u 239) :: (u 240) :: (u 241) :: (u 242) :: (u 243) :: (u 244) :: (u 245) :: (u 246) :: (u 247) :: (u 248) :: (u 249) :: [] : List Value).toArray, defers := [] }
set_option linter.unusedVariables false in
set_option linter.unusedSimpArgs false in
set_option maxRecDepth 100000 in
set_option maxHeartbeats 16000000 in
theorem law3_any (a : Option Addr) (n c : Nat) (s : Nat → OpD) (w : World) (hs : Scr w a n s) :
    Calls Try.prog 3 #[.slice a n c] w fun e w' => e = .returned (.bool true) ∧ Below w.heap.size w w' := by
  by_cases hn : n ≤ 65536
  case neg =>
    have HSM := hid_of (small_no a n c hn w)
    clear hs hn
    go_enter Try.func3, Try.ntmps3
    go_wp2_with fail
    refine HSM.out.mono ?_
    rintro e w0 ⟨rfl, hw0⟩
    obtain rfl := hw0.symm
    go_wp2_with fail
    go_ret
    exact ⟨rfl, Below.refl _ _⟩
  have HSM := hid_of (small_yes a n c hn w)
  have HPL := hid_of (play_any a n c s hn true true w hs)
  have hok := plyN_ok s true true n (fun k hk => hs.1 k hk)
  have hpf := pf_play s n (fun k hk => hs.1 k hk)
  have hpi := pi_play s true true n (fun k hk => hs.1 k hk)
  have hrel := rel_play s true true n
  have hx3 := x3_play s true true n
  have hsc := sc_play s true true false false n
  have hkk := kk_play s true true n
  generalize plyN s false false n = Rr at *
  generalize plyN s true true n = R at *
  obtain ⟨rn, hrn⟩ : ∃ rn, R.reps.length = rn := ⟨_, rfl⟩
  have HPF : Hid (PI 2305 R ∧ R.ko = true ∧ R.reps.length = rn ∧ rn ≤ 26214400) := ⟨hpi, hkk.2, hrn, by have := hok.2; omega⟩
  have HPR : Hid (∃ l, (itN R.prog (im0 R.img) rn).log = R.uP.log ++ l) := by unfold Hid; rw [← hrn]; exact f3_pre hrel hx3 hsc.img hpf
  have HEN : Hid (R.run = true → Na R.reps → (halR R || traR R) = true → halR R = (itN R.prog (im0 R.img) rn).hal ∧ traR R = (itN R.prog (im0 R.img) rn).tra ∧ R.uP.log = (itN R.prog (im0 R.img) rn).log ∧ (R.hc = false → R.ho = false → (∀ j, j < 16 → R.BP.get j = (itN R.prog (im0 R.img) rn).r j ∧ R.BP.get (18 + j) = (itN R.prog (im0 R.img) rn).r j) ∧ R.BP.get 16 = (itN R.prog (im0 R.img) rn).pc ∧ R.BP.get 34 = (itN R.prog (im0 R.img) rn).pc)) := by unfold Hid; rw [← hrn]; exact f3_end hrel hx3 hsc.img hpf
  have HNO : Hid (R.run = false → R.uP.log = [] ∧ R.uD.log = []) := f3_none hrel hpf hpi
  clear hs hn hok hpf hpi hrel hx3 hsc hkk hrn
  go_enter Try.func3, Try.ntmps3
  go_wp2_with fail
  refine HSM.out.mono ?_
  rintro e w0 ⟨rfl, hw0⟩
  obtain rfl := hw0.symm
  clear HSM hw0
  go_wp2_with fail
  refine HPL.out.mono ?_
  rintro e w1 ⟨rfl, own, L, hr1, hb1, ho1, hl1⟩
  have HR1 : Hid (RR own w1 L R ∧ Below w.heap.size w w1 ∧ L.rg = w.heap.size + 5) := ⟨hr1, hb1, hl1⟩
  have HRG : Hid (∀ ω, Below w1.heap.size w1 ω → Blk ω (w.heap.size + 5) (rigV L R) 38) := fun ω k => by rw [← hl1]; exact (hr1.below k).rg.1
  have c20 : w1.cell? ⟨w.heap.size + 5, 20, none⟩ = some (ptr R.run L.pb) := (HRG.out w1 (Below.refl _ _)).cell 20
  have HIT := hid_of (interp_any own L R w1 hr1)
  rw [hl1] at HIT
  clear HPL hr1 hb1 ho1 hl1
  cases hrun : R.run
  case false =>
    rw [hrun] at c20
    have c20' : w1.cell? ⟨w.heap.size + 5, 20, none⟩ = some (.pointer none) := c20
    obtain ⟨e1, e2⟩ := HNO.out hrun
    obtain ⟨pa, pc, hpv⟩ := HR1.out.1.uP.u.log.form'
    obtain ⟨da, dc, hdv⟩ := HR1.out.1.uD.u.log.form'
    rw [e1] at hpv
    rw [e2] at hdv
    have c2 : w1.cell? ⟨w.heap.size + 5, 2, none⟩ = some (.pointer (some ⟨L.ubP, 0, none⟩)) := (HRG.out w1 (Below.refl _ _)).cell 2
    have c3 : w1.cell? ⟨w.heap.size + 5, 3, none⟩ = some (.pointer (some ⟨L.ubD, 0, none⟩)) := (HRG.out w1 (Below.refl _ _)).cell 3
    have HLP : Hid (Calls Try.prog 13 #[.pointer (some ⟨L.ubP, 0, none⟩)] w1 fun e w' => e = .returned (.slice pa 0 pc) ∧ w' = w1) := by
      have := log_any L.ubP L.mbP L.lvP L.gvP R.uP w1 HR1.out.1.uP.u
      rw [hpv] at this
      exact this
    have HLD : Hid (Calls Try.prog 13 #[.pointer (some ⟨L.ubD, 0, none⟩)] w1 fun e w' => e = .returned (.slice da 0 dc) ∧ w' = w1) := by
      have := log_any L.ubD L.mbD L.lvD L.gvD R.uD w1 HR1.out.1.uD.u
      rw [hdv] at this
      exact this
    clear c20 e1 e2 hpv hdv hrun HIT
    go_wp2_with fail
    refine HLP.out.mono ?_
    rintro e w2 ⟨rfl, hw2⟩
    obtain rfl := hw2.symm
    clear hw2
    go_wp2_with fail
    refine HLD.out.mono ?_
    rintro e w2 ⟨rfl, hw2⟩
    obtain rfl := hw2.symm
    clear hw2
    go_wp2_with fail
    go_ret
    exact ⟨rfl, HR1.out.2.1⟩
  case true =>
  rw [hrun] at c20
  have c20' : w1.cell? ⟨w.heap.size + 5, 20, none⟩ = some (.pointer (some ⟨L.pb, 0, none⟩)) := c20
  have HRUN := hid_of hrun
  clear c20 hrun HNO
  go_wp2_with fail
  refine HIT.out.mono ?_
  rintro e w2 ⟨mb, mm, rfl, hm2, hb2, hnb, hmm⟩
  have HM2 : Hid (MR w2 mb mm L.pv (.slice none 0 0) R.prog (im0 R.img) ∧ Below w1.heap.size w1 w2 ∧ w1.heap.size ≤ mb ∧ w1.heap.size ≤ mm) := ⟨hm2, hb2, hnb, hmm⟩
  obtain ⟨ra, rc, hrv⟩ := HR1.out.1.reps.1.form'
  rw [HPF.out.2.2.1] at hrv
  have HC22 : Hid (∀ wr, Below w1.heap.size w1 wr → wr.cell? ⟨w.heap.size + 5, 22, none⟩ = some (.slice ra rn rc)) := fun wr k => by
    rw [← hrv]
    exact (HRG.out wr k).cell 22
  have HRV := hid_of hrv
  have c22 := HC22.out w2 hb2
  clear HIT hm2 hb2 hnb hmm hrv c20'
  go_wp2_with fail
  clear c22
  refine q_of (Q := fun a => (Code.loop _).wp Try.prog _ a _) (F := fr3 (w.heap.size + 5) mb rn 0) (fun u0 => ?_) _ (by kernel_rfl)
  refine wp_loop (fun act wr => ∃ (u : Nat → Value) (j : Nat), act = fr3 (w.heap.size + 5) mb rn j u ∧ j ≤ rn ∧ Hid (∃ gv, MR wr mb mm L.pv gv R.prog (itN R.prog (im0 R.img) j) ∧ Below w1.heap.size w1 wr ∧ (∀ k, gv.ownBlock = some k → w1.heap.size ≤ k))) (fun act _ => 30000000 - (intOf (act.tmps.getD 45 undef)).toNat) ⟨u0, 0, rfl, Nat.zero_le _, ⟨_, HM2.out.1, HM2.out.2.1, fun k hk => by cases hk⟩⟩ ?_
  rintro act wr ⟨u, j, rfl, hj, HR⟩
  by_cases hjn : j < rn
  · have hji : ((j : Nat) : Int) < (rn : Nat) := by omega
    have hadd : IntKind.i64.wrap (((j : Nat) : Int) + 1) = (j : Nat) + 1 := by have := HPF.out.2.2.2; simp [IntKind.wrap, IntKind.bits, IntKind.signed]; omega
    have HST : Hid (Calls Try.prog 15 #[.pointer (some ⟨mb, 0, none⟩)] wr fun e w' => e = .returned (.tuple #[]) ∧ ∃ gv, MR w' mb mm L.pv gv R.prog (itN R.prog (im0 R.img) (j + 1)) ∧ Below w1.heap.size w1 w' ∧ (∀ k, gv.ownBlock = some k → w1.heap.size ≤ k)) := by
      obtain ⟨gv, h1, h2, h3⟩ := HR.out
      have hlen := itN_len R.prog (im0 R.img) j
      refine (mstep_any mb mm L.pv gv R.prog _ (itN_ok (im0_ok HPF.out.1.wi) j) HPF.out.1.ok.plen HPF.out.1.ok.pw (by have := HPF.out.2.2.2; have : (im0 R.img).log.length = 0 := rfl; omega) wr h1).mono ?_
      rintro e w' ⟨he, gv', g1, g2, g3⟩
      refine ⟨he, gv', g1, ⟨g2.os.trans h2.os, g2.tape.trans h2.tape, g2.output.trans h2.output, Nat.le_trans h2.size g2.size, fun k hk => (g2.block k (Nat.lt_of_lt_of_le hk h2.size) ?_).trans (h2.block k hk)⟩, fun k hk => ?_⟩
      · rintro (q | q | q)
        · have := HM2.out.2.2.1; omega
        · have := HM2.out.2.2.2; omega
        · have := h3 k q; omega
      · rcases g3 k hk with q | q
        · exact h3 k q
        · exact Nat.le_trans h2.size q
    have HKR : Hid (∀ (act : Act) (w' : World), act = fr3 (w.heap.size + 5) mb rn (j + 1) (fun i => act.tmps.getD i undef) → (∃ gv, MR w' mb mm L.pv gv R.prog (itN R.prog (im0 R.img) (j + 1)) ∧ Below w1.heap.size w1 w' ∧ (∀ k, gv.ownBlock = some k → w1.heap.size ≤ k)) → ((fun act wr => ∃ (u : Nat → Value) (j : Nat), act = fr3 (w.heap.size + 5) mb rn j u ∧ j ≤ rn ∧ Hid (∃ gv, MR wr mb mm L.pv gv R.prog (itN R.prog (im0 R.img) j) ∧ Below w1.heap.size w1 wr ∧ (∀ k, gv.ownBlock = some k → w1.heap.size ≤ k))) act w' ∧ 30000000 - (intOf (act.tmps.getD 45 undef)).toNat < 30000000 - (intOf ((fr3 (w.heap.size + 5) mb rn j u).tmps.getD 45 undef)).toNat)) := fun act w' e h => by
      refine ⟨⟨_, j + 1, e, hjn, h⟩, ?_⟩
      have e1 : act.tmps.getD 45 undef = .int .i64 ((j + 1 : Nat) : Int) := by rw [e]; rfl
      have e2 : (fr3 (w.heap.size + 5) mb rn j u).tmps.getD 45 undef = .int .i64 ((j : Nat) : Int) := rfl
      simp only [e1, e2, intOf]
      have := HPF.out.2.2.2
      omega
    clear hj hjn
    unfold fr3
    go_wp2_with fail
    refine HST.out.mono ?_
    rintro e w3 ⟨rfl, h3⟩
    have H3 := hid_of h3
    clear HST h3
    go_wp2_with fail
    exact HKR.out _ _ (by kernel_rfl) H3.out
  have hji : ¬ ((j : Nat) : Int) < (rn : Nat) := by omega
  obtain rfl : j = rn := by omega
  obtain ⟨gv, hm1, hbw, hgo⟩ := HR.out
  obtain ⟨M, hM⟩ : ∃ M, (itN R.prog (im0 R.img) j) = M := ⟨_, rfl⟩
  rw [hM] at hm1 HPR HEN
  obtain ⟨ga, gc, hgv⟩ := hm1.log.form'
  subst hgv
  obtain ⟨gn, hgn⟩ : ∃ gn, M.log.length = gn := ⟨_, rfl⟩
  rw [hgn] at hm1
  have HGN : Hid (M.log.length = gn ∧ gn ≤ 26214400) := by
    have hlen := itN_len R.prog (im0 R.img) j
    rw [hM, hgn] at hlen
    have : (im0 R.img).log.length = 0 := rfl
    have := HPF.out.2.2.2
    exact ⟨hgn, by omega⟩
  have HK : Hid (∀ ω, Below wr.heap.size wr ω → MK ω mb mm L.pv (.slice ga gn gc) M) := fun ω k => hm1.mk'.below k
  have HBW := hid_of hbw
  have HB : Hid (∀ ω, Below wr.heap.size wr ω → Below w.heap.size w ω) := fun ω k => HR1.out.2.1.trans ((HBW.out.trans (k.mono HBW.out.size)).mono HR1.out.2.1.size)
  have HRR : Hid (∀ ω, Below wr.heap.size wr ω → RR own ω L R) := fun ω k => HR1.out.1.below (HBW.out.trans (k.mono HBW.out.size))
  have HCL : Hid (∀ ω, Below wr.heap.size wr ω → Blk ω (w.heap.size + 5) (rigV L R) 38) := fun ω k => HRG.out ω (HBW.out.trans (k.mono HBW.out.size))
  clear hm1 hbw hgo hgn hM HR HM2 hj hjn HC22 HRG HBW
  obtain ⟨pa, pc, hpv⟩ := HR1.out.1.uP.u.log.form'
  obtain ⟨pn, hpn⟩ : ∃ pn, R.uP.log.length = pn := ⟨_, rfl⟩
  rw [hpn] at hpv
  have HPN := hid_of hpn
  have HJJ : Hid (∀ ω, Below wr.heap.size wr ω → ω.cell? ⟨w.heap.size + 5, 2, none⟩ = some (.pointer (some ⟨L.ubP, 0, none⟩)) ∧ ω.cell? ⟨mb, 21, none⟩ = some (.slice ga gn gc)) := fun ω k => ⟨(HCL.out ω k).cell 2, (HK.out ω k).blk.cell 21⟩
  have HLG : Hid (∀ ω, Below wr.heap.size wr ω → Calls Try.prog 13 #[.pointer (some ⟨L.ubP, 0, none⟩)] ω fun e w' => e = .returned (.slice pa pn pc) ∧ w' = ω) := fun ω k => by rw [← hpv]; exact log_any L.ubP L.mbP L.lvP L.gvP R.uP ω (HRR.out ω k).uP.u
  have HIP : Hid (∀ ω, Below wr.heap.size wr ω → Calls Try.prog 16 #[.slice pa pn pc, .slice ga gn gc] ω fun e w' => e = .returned (.bool true) ∧ Below ω.heap.size ω w') := fun ω k => by
    obtain ⟨l, hl⟩ := HPR.out
    have h9 := (HK.out ω k).log
    rw [hl] at h9
    have h8 := (HRR.out ω k).uP.u.log
    rw [← hpv]
    exact isPre_yes L.gvP (.slice ga gn gc) R.uP.log l ω h8 h9 (by rw [← hl]; have := HGN.out; omega)
  have HD : Hid (Below wr.heap.size wr wr.drew) := ⟨rfl, rfl, rfl, Nat.le_refl _, fun _ _ => rfl⟩
  have HRP : Hid (R.reps.length = j ∧ j < 2000000000 ∧ ∀ ω, Below wr.heap.size wr ω → ω.cell? ⟨w.heap.size + 5, 22, none⟩ = some (.slice ra j rc) ∧ Sl ω (.slice ra j rc) 51 13 j (R.reps.flatMap reprow)) := ⟨HPF.out.2.2.1, by have := HPF.out.2.2.2; omega, fun ω k => ⟨by rw [← HRV.out]; exact (HCL.out ω k).cell 22, by have h9 := (HRR.out ω k).reps.1; rw [HRV.out, HPF.out.2.2.1] at h9; exact h9⟩⟩
  clear hpv hpn HRV HPR
  unfold fr3
  go_upto_region 11 with fail
  clear hji
  refine wp_region_float [0, 1, 2, 3, 5, 6, 7, 8] [4, 9, 10] [0, 1, 2, 5, 6, 7] mixed (fun ω => Below wr.heap.size wr ω) (by kernel_rfl) rfl (by kernel_rfl) HD.out ?_
  refine wpFl_op _ _ _ _ rfl rfl (fun ω hj => by first | (go_simp; rfl) | (have j1 := (HJJ.out ω (hj rfl)).1; have j2 := (HJJ.out ω (hj rfl)).2; go_simp; rfl)) ?_
  simp only [List.getElem_toArray, List.getElem_cons_succ, List.getElem_cons_zero, Act.put, List.setIfInBounds_toArray, List.set_cons_succ, List.set_cons_zero]
  refine wpFl_op _ _ _ _ rfl rfl (fun ω hj => by first | (go_simp; rfl) | (have j1 := (HJJ.out ω (hj rfl)).1; have j2 := (HJJ.out ω (hj rfl)).2; go_simp; rfl)) ?_
  simp only [List.getElem_toArray, List.getElem_cons_succ, List.getElem_cons_zero, Act.put, List.setIfInBounds_toArray, List.set_cons_succ, List.set_cons_zero]
  refine wpFl_op _ _ _ _ rfl rfl (fun ω hj => by first | (go_simp; rfl) | (have j1 := (HJJ.out ω (hj rfl)).1; have j2 := (HJJ.out ω (hj rfl)).2; go_simp; rfl)) ?_
  simp only [List.getElem_toArray, List.getElem_cons_succ, List.getElem_cons_zero, Act.put, List.setIfInBounds_toArray, List.set_cons_succ, List.set_cons_zero]
  refine wpFl_op _ _ _ _ rfl rfl (fun ω hj => by first | (go_simp; rfl) | (have j1 := (HJJ.out ω (hj rfl)).1; have j2 := (HJJ.out ω (hj rfl)).2; go_simp; rfl)) ?_
  simp only [List.getElem_toArray, List.getElem_cons_succ, List.getElem_cons_zero, Act.put, List.setIfInBounds_toArray, List.set_cons_succ, List.set_cons_zero]
  refine wpFl_op _ _ _ _ rfl rfl (fun ω hj => by first | (go_simp; rfl) | (have j1 := (HJJ.out ω (hj rfl)).1; have j2 := (HJJ.out ω (hj rfl)).2; go_simp; rfl)) ?_
  simp only [List.getElem_toArray, List.getElem_cons_succ, List.getElem_cons_zero, Act.put, List.setIfInBounds_toArray, List.set_cons_succ, List.set_cons_zero]
  refine wpFl_op _ _ _ _ rfl rfl (fun ω hj => by first | (go_simp; rfl) | (have j1 := (HJJ.out ω (hj rfl)).1; have j2 := (HJJ.out ω (hj rfl)).2; go_simp; rfl)) ?_
  simp only [List.getElem_toArray, List.getElem_cons_succ, List.getElem_cons_zero, Act.put, List.setIfInBounds_toArray, List.set_cons_succ, List.set_cons_zero]
  refine wpFl_op _ _ _ _ rfl rfl (fun ω hj => by first | (go_simp; rfl) | (have j1 := (HJJ.out ω (hj rfl)).1; have j2 := (HJJ.out ω (hj rfl)).2; go_simp; rfl)) ?_
  simp only [List.getElem_toArray, List.getElem_cons_succ, List.getElem_cons_zero, Act.put, List.setIfInBounds_toArray, List.set_cons_succ, List.set_cons_zero]
  refine wpFl_op _ _ _ _ rfl rfl (fun ω hj => by first | (go_simp; rfl) | (have j1 := (HJJ.out ω (hj rfl)).1; have j2 := (HJJ.out ω (hj rfl)).2; go_simp; rfl)) ?_
  simp only [List.getElem_toArray, List.getElem_cons_succ, List.getElem_cons_zero, Act.put, List.setIfInBounds_toArray, List.set_cons_succ, List.set_cons_zero]
  refine wpFl_nil _ _ ?_
  refine wpCh_one _ _ _ _ rfl ?_
  simp only [List.getElem_toArray, List.getElem_cons_succ, List.getElem_cons_zero, Act.put, List.setIfInBounds_toArray, List.set_cons_succ, List.set_cons_zero]
  go_wp2_with fail
  refine (HLG.out _ HD.out).mono ?_
  rintro e w3 ⟨rfl, hw3⟩
  obtain rfl := hw3.symm
  clear hw3
  go_wp2_with fail
  refine ⟨HD.out, ?_⟩
  refine wpCh_rest _ _ _ _ [_, _] _ _ rfl (by kernel_rfl) ?_
  simp only [List.getElem_toArray, List.getElem_cons_succ, List.getElem_cons_zero, Act.put, List.setIfInBounds_toArray, List.set_cons_succ, List.set_cons_zero]
  go_wp2_with fail
  refine (HIP.out _ HD.out).mono ?_
  rintro e w3 ⟨rfl, hb3⟩
  have HB3 : Hid (Below wr.heap.size wr w3) := HD.out.trans (hb3.mono (Nat.le_refl _))
  have c22 := (HRP.out.2.2 w3 HB3.out).1
  have HCF := hid_of (cont_any ra j rc R.reps HRP.out.1 HRP.out.2.1 w3 (HRP.out.2.2 w3 HB3.out).2)
  clear hb3 HIP HD HJJ
  go_wp2_with fail
  refine HCF.out.mono ?_
  rintro e w4 ⟨z, rfl, hb4, hza⟩
  have HZA := hid_of hza
  have HB4 : Hid (Below wr.heap.size wr w4) := HB3.out.trans (hb4.mono HB3.out.size)
  clear hb4 hza c22 HCF HRP HB3
  obtain ⟨sp, hsp⟩ : ∃ sp, (halR R || traR R) = sp := ⟨_, rfl⟩
  have HSP := hid_of hsp
  have HSC : Hid (Calls Try.prog 19 #[.pointer (some ⟨w.heap.size + 5, 0, none⟩)] w4 fun e w' => e = .returned (.bool sp) ∧ ∃ q, w' = w4.drewN q) := by
    have := stopped_any own L R w4 (HRR.out w4 HB4.out)
    rw [HR1.out.2.2, HRUN.out, hsp] at this
    exact this
  obtain ⟨zv, hzv⟩ : ∃ zv, (sp && !z) = zv := ⟨_, rfl⟩
  have HZV := hid_of hzv
  clear hsp
  go_upto_region 14 with fail
  refine cutM (Km := fun act wd => ∃ u, act = fr3y (w.heap.size + 5) mb zv u ∧ Hid (Below wr.heap.size wr wd)) ?rest1 ?first1
  case first1 =>
    obtain ⟨KR1, hKR1⟩ : ∃ KR : Act → World → Prop, KR = fun act wd => ∃ u, act = fr3y (w.heap.size + 5) mb zv u ∧ Hid (Below wr.heap.size wr wd) := ⟨_, rfl⟩
    have HKR1 : Hid (∀ (act : Act) (wd : World), act = fr3y (w.heap.size + 5) mb zv (fun i => act.tmps.getD i undef) → Below wr.heap.size wr wd → KR1 act wd) := fun act wd e h => by rw [hKR1]; exact ⟨_, e, h⟩
    rw [← hKR1]
    clear hKR1
    cases sp
    · have hz2 : zv = false := by rw [← hzv]; rfl
      subst hz2
      clear hzv
      go_wp2_with fail
      refine HSC.out.mono ?_
      rintro e w5 ⟨rfl, q, hq⟩
      have HB5 : Hid (Below wr.heap.size wr w5) := by rw [hq]; exact below_drewN' HB4.out
      clear HSC hq
      go_wp2_with fail
      exact HKR1.out _ _ (by kernel_rfl) HB5.out
    · have hz2 : (!z) = zv := hzv
      subst hz2
      clear hzv
      go_wp2_with fail
      refine HSC.out.mono ?_
      rintro e w5 ⟨rfl, q, hq⟩
      have HB5 : Hid (Below wr.heap.size wr w5) := by rw [hq]; exact below_drewN' HB4.out
      clear HSC hq
      go_wp2_with fail
      exact HKR1.out _ _ (by kernel_rfl) HB5.out
  case rest1 =>
  clear hzv HSC HB4
  rintro act w5 ⟨u, rfl, HB5⟩
  unfold fr3y
  go_upto_if 71 with fail
  refine cutM (Km := fun act wt => ∃ u, act = fr3c (w.heap.size + 5) u ∧ Hid (Below wr.heap.size wr wt)) ?rest2 ?first2
  case first2 =>
    obtain ⟨KR2, hKR2⟩ : ∃ KR : Act → World → Prop, KR = fun act wt => ∃ u, act = fr3c (w.heap.size + 5) u ∧ Hid (Below wr.heap.size wr wt) := ⟨_, rfl⟩
    have HKR2 : Hid (∀ (act : Act) (wt : World), act = fr3c (w.heap.size + 5) (fun i => act.tmps.getD i undef) → Below wr.heap.size wr wt → KR2 act wt) := fun act wt e h => by rw [hKR2]; exact ⟨_, e, h⟩
    rw [← hKR2]
    clear hKR2
    cases zv
    case false =>
      go_wp2_with fail
      exact HKR2.out _ _ (by kernel_rfl) HB5.out
    case true =>
    have HEND : Hid (halR R = M.hal ∧ traR R = M.tra ∧ R.uP.log = M.log ∧ (R.hc = false → R.ho = false → (∀ j, j < 16 → R.BP.get j = M.r j ∧ R.BP.get (18 + j) = M.r j) ∧ R.BP.get 16 = M.pc ∧ R.BP.get 34 = M.pc)) := by
      have h1 := HZV.out
      simp only [Bool.and_eq_true, Bool.not_eq_true'] at h1
      exact HEN.out HRUN.out (HZA.out h1.2) (HSP.out.trans h1.1)
    have HQ : Hid (∀ ω, Below w5.heap.size w5 ω → RR own ω L R ∧ MK ω mb mm L.pv (.slice ga gn gc) M ∧ Blk ω (w.heap.size + 5) (rigV L R) 38 ∧ Below wr.heap.size wr ω) := fun ω k => by
      have h := HB5.out.trans (k.mono HB5.out.size)
      exact ⟨HRR.out ω h, HK.out ω h, HCL.out ω h, h⟩
    have HPG : Hid (pn = gn) := by unfold Hid; rw [← HPN.out, HEND.out.2.2.1]; exact HGN.out.1
    obtain ⟨hv, hhv⟩ : ∃ hv, M.hal = hv := ⟨_, rfl⟩
    obtain ⟨tv, htv⟩ : ∃ tv, M.tra = tv := ⟨_, rfl⟩
    have HF : Hid (∀ ω, Below w5.heap.size w5 ω → ω.cell? ⟨w.heap.size + 5, 20, none⟩ = some (.pointer (some ⟨L.pb, 0, none⟩)) ∧ ω.cell? ⟨mb, 19, none⟩ = some (.bool hv) ∧ ω.cell? ⟨mb, 20, none⟩ = some (.bool tv) ∧ ω.cell? ⟨w.heap.size + 5, 2, none⟩ = some (.pointer (some ⟨L.ubP, 0, none⟩)) ∧ ω.cell? ⟨mb, 21, none⟩ = some (.slice ga gn gc)) := fun ω k => by
      obtain ⟨h1, h2, h3, _⟩ := HQ.out ω k
      have h4 : ω.cell? ⟨w.heap.size + 5, 20, none⟩ = some (ptr R.run L.pb) := h3.cell 20
      rw [HRUN.out] at h4
      exact ⟨h4, by rw [← hhv]; exact h2.blk.cell 19, by rw [← htv]; exact h2.blk.cell 20, h3.cell 2, h2.blk.cell 21⟩
    have C20 : Hid (∀ ω, Below w5.heap.size w5 ω → Calls Try.prog 20 #[.pointer (some ⟨L.pb, 0, none⟩)] ω fun e w' => e = .returned (.bool hv) ∧ Below w5.heap.size w5 w') := fun ω k => by
      have h := halted_any L.pb L.bbP L.ubP L.pv R.last ω ((HQ.out ω k).1.pair HRUN.out).1
      rw [show (andB (andB R.last.del.c R.last.sha.c) 4 != 0) = hv from HEND.out.1.trans hhv] at h
      exact h.mono fun e w' ⟨h1, q, h2⟩ => ⟨h1, by rw [h2]; exact below_drewN' k⟩
    have C21 : Hid (∀ ω, Below w5.heap.size w5 ω → Calls Try.prog 21 #[.pointer (some ⟨L.pb, 0, none⟩)] ω fun e w' => e = .returned (.bool tv) ∧ Below w5.heap.size w5 w') := fun ω k => by
      have h := trapped_any L.pb L.bbP L.ubP L.pv R.last ω ((HQ.out ω k).1.pair HRUN.out).1
      rw [show (andB (andB R.last.del.c R.last.sha.c) 8 != 0) = tv from HEND.out.2.1.trans htv] at h
      exact h.mono fun e w' ⟨h1, q, h2⟩ => ⟨h1, by rw [h2]; exact below_drewN' k⟩
    have C13 : Hid (∀ ω, Below w5.heap.size w5 ω → Calls Try.prog 13 #[.pointer (some ⟨L.ubP, 0, none⟩)] ω fun e w' => e = .returned (.slice pa gn pc) ∧ Below w5.heap.size w5 w') := fun ω k => by
      have h := HLG.out ω (HQ.out ω k).2.2.2
      rw [HPG.out] at h
      exact h.mono fun e w' ⟨h1, h2⟩ => ⟨h1, by rw [h2]; exact k⟩
    clear hhv htv
    go_upto_region 15 with fail
    refine cutM (Km := fun act w6 => ∃ u, act = fr3e (w.heap.size + 5) mb u ∧ Hid (Below w5.heap.size w5 w6)) ?rest3 ?first3
    case first3 =>
      obtain ⟨KR3, hKR3⟩ : ∃ KR : Act → World → Prop, KR = fun act w6 => ∃ u, act = fr3e (w.heap.size + 5) mb u ∧ Hid (Below w5.heap.size w5 w6) := ⟨_, rfl⟩
      have HKR3 : Hid (∀ (act : Act) (w' : World), act = fr3e (w.heap.size + 5) mb (fun i => act.tmps.getD i undef) → Below w5.heap.size w5 w' → KR3 act w') := fun act w' e h => by rw [hKR3]; exact ⟨_, e, h⟩
      rw [← hKR3]
      clear hKR3
      refine q_of (Q := fun a => Code.wp Try.prog _ (Exit.then KR3 _) a w5) (F := fr3v (w.heap.size + 5) mb) (fun u1 => ?_) _ (by kernel_rfl)
      exact reg15 (w.heap.size + 5) mb L.pb L.ubP hv tv ga pa gn gc pc w5 HF C13 C20 C21 KR3 HKR3 _ _ (by kernel_rfl) u1
    case rest3 =>
    clear HF C20 C21 C13 HPG
    rintro act w6 ⟨u, rfl, HB6⟩
    unfold fr3e
    go_upto_region 17 with fail
    have HMC : Hid (∀ ω, Below w6.heap.size w6 ω → Blk ω mb (mV L.pv mm M (.slice ga gn gc)) 46) := fun ω k => (HQ.out ω (HB6.out.trans (k.mono HB6.out.size))).2.1.blk
    refine cutM (Km := fun act w7 => ∃ u, act = fr3t (w.heap.size + 5) w6.heap.size u ∧ Hid (w7 = (w6.alloc (.cells #[.int .u32 (M.r 0), .int .u32 (M.r 1), .int .u32 (M.r 2), .int .u32 (M.r 3), .int .u32 (M.r 4), .int .u32 (M.r 5), .int .u32 (M.r 6), .int .u32 (M.r 7), .int .u32 (M.r 8), .int .u32 (M.r 9), .int .u32 (M.r 10), .int .u32 (M.r 11), .int .u32 (M.r 12), .int .u32 (M.r 13), .int .u32 (M.r 14), .int .u32 (M.r 15), .int .u32 M.pc] 55)).drew)) ?rest4 ?first4
    case first4 =>
      obtain ⟨KR4, hKR4⟩ : ∃ KR : Act → World → Prop, KR = fun act w7 => ∃ u, act = fr3t (w.heap.size + 5) w6.heap.size u ∧ Hid (w7 = (w6.alloc (.cells #[.int .u32 (M.r 0), .int .u32 (M.r 1), .int .u32 (M.r 2), .int .u32 (M.r 3), .int .u32 (M.r 4), .int .u32 (M.r 5), .int .u32 (M.r 6), .int .u32 (M.r 7), .int .u32 (M.r 8), .int .u32 (M.r 9), .int .u32 (M.r 10), .int .u32 (M.r 11), .int .u32 (M.r 12), .int .u32 (M.r 13), .int .u32 (M.r 14), .int .u32 (M.r 15), .int .u32 M.pc] 55)).drew) := ⟨_, rfl⟩
      have HKR4 : Hid (∀ (act : Act) (w' : World), act = fr3t (w.heap.size + 5) w6.heap.size (fun i => act.tmps.getD i undef) → w' = (w6.alloc (.cells #[.int .u32 (M.r 0), .int .u32 (M.r 1), .int .u32 (M.r 2), .int .u32 (M.r 3), .int .u32 (M.r 4), .int .u32 (M.r 5), .int .u32 (M.r 6), .int .u32 (M.r 7), .int .u32 (M.r 8), .int .u32 (M.r 9), .int .u32 (M.r 10), .int .u32 (M.r 11), .int .u32 (M.r 12), .int .u32 (M.r 13), .int .u32 (M.r 14), .int .u32 (M.r 15), .int .u32 M.pc] 55)).drew → KR4 act w') := fun act w' e h => by rw [hKR4]; exact ⟨_, e, h⟩
      rw [← hKR4]
      clear hKR4
      refine q_of (Q := fun a => Code.wp Try.prog _ (Exit.then KR4 _) a w6) (F := fr3v (w.heap.size + 5) mb) (fun u1 => ?_) _ (by kernel_rfl)
      exact reg17 (w.heap.size + 5) mb mm L.pv (.slice ga gn gc) M w6 HMC KR4 HKR4 _ _ (by kernel_rfl) u1
    case rest4 =>
    rintro act w7 ⟨u, rfl, HW7⟩
    have HZ : Hid (Below w6.heap.size w6 w7 ∧ Blk w7 w6.heap.size (stV M.r M.pc) 55) := by
      unfold Hid
      rw [HW7.out]
      have hb9 : Below w6.heap.size w6 (w6.alloc (.cells #[.int .u32 (M.r 0), .int .u32 (M.r 1), .int .u32 (M.r 2), .int .u32 (M.r 3), .int .u32 (M.r 4), .int .u32 (M.r 5), .int .u32 (M.r 6), .int .u32 (M.r 7), .int .u32 (M.r 8), .int .u32 (M.r 9), .int .u32 (M.r 10), .int .u32 (M.r 11), .int .u32 (M.r 12), .int .u32 (M.r 13), .int .u32 (M.r 14), .int .u32 (M.r 15), .int .u32 M.pc] 55)) := (Below.refl _ _).alloc (Nat.le_refl _) _
      have hk9 : Blk (w6.alloc (.cells #[.int .u32 (M.r 0), .int .u32 (M.r 1), .int .u32 (M.r 2), .int .u32 (M.r 3), .int .u32 (M.r 4), .int .u32 (M.r 5), .int .u32 (M.r 6), .int .u32 (M.r 7), .int .u32 (M.r 8), .int .u32 (M.r 9), .int .u32 (M.r 10), .int .u32 (M.r 11), .int .u32 (M.r 12), .int .u32 (M.r 13), .int .u32 (M.r 14), .int .u32 (M.r 15), .int .u32 M.pc] 55)) w6.heap.size #[.int .u32 (M.r 0), .int .u32 (M.r 1), .int .u32 (M.r 2), .int .u32 (M.r 3), .int .u32 (M.r 4), .int .u32 (M.r 5), .int .u32 (M.r 6), .int .u32 (M.r 7), .int .u32 (M.r 8), .int .u32 (M.r 9), .int .u32 (M.r 10), .int .u32 (M.r 11), .int .u32 (M.r 12), .int .u32 (M.r 13), .int .u32 (M.r 14), .int .u32 (M.r 15), .int .u32 M.pc] 55 := Blk.new _ _ _
      exact ⟨⟨hb9.os, hb9.tape, hb9.output, hb9.size, hb9.block⟩, hk9⟩
    have HQ7 : Hid (∀ ω, Below w7.heap.size w7 ω → RR own ω L R ∧ Blk ω (w.heap.size + 5) (rigV L R) 38 ∧ Below wr.heap.size wr ω) := fun ω k => by
      have h := HQ.out ω (HB6.out.trans ((HZ.out.1.trans (k.mono HZ.out.1.size)).mono HB6.out.size))
      exact ⟨h.1, h.2.2.1, h.2.2.2⟩
    have HG : Hid (∀ ω, Below w7.heap.size w7 ω → ω.cell? ⟨w.heap.size + 5, 20, none⟩ = some (.pointer (some ⟨L.pb, 0, none⟩)) ∧ ω.cell? ⟨w.heap.size + 5, 4, none⟩ = some (.bool R.hc) ∧ ω.cell? ⟨w.heap.size + 5, 5, none⟩ = some (.bool R.ho)) := fun ω k => by
      have h3 := (HQ7.out ω k).2.1
      have h4 : ω.cell? ⟨w.heap.size + 5, 20, none⟩ = some (ptr R.run L.pb) := h3.cell 20
      rw [HRUN.out] at h4
      exact ⟨h4, h3.cell 4, h3.cell 5⟩
    clear HQ HMC HW7
    unfold fr3t
    go_upto_region 18 with fail
    refine cutM (Km := fun act w8 => ∃ u, act = fr3k (w.heap.size + 5) u ∧ Hid (Below w7.heap.size w7 w8)) ?rest5 ?first5
    case first5 =>
      obtain ⟨KR5, hKR5⟩ : ∃ KR : Act → World → Prop, KR = fun act w8 => ∃ u, act = fr3k (w.heap.size + 5) u ∧ Hid (Below w7.heap.size w7 w8) := ⟨_, rfl⟩
      have HKR5 : Hid (∀ (act : Act) (w' : World), act = fr3k (w.heap.size + 5) (fun i => act.tmps.getD i undef) → Below w7.heap.size w7 w' → KR5 act w') := fun act w' e h => by rw [hKR5]; exact ⟨_, e, h⟩
      rw [← hKR5]
      clear hKR5
      refine q_of (Q := fun a => Code.wp Try.prog _ (Exit.then KR5 _) a w7) (F := fr3t (w.heap.size + 5) w6.heap.size) (fun u1 => ?_) _ (by kernel_rfl)
      cases hhc : R.hc
      case true =>
        rw [hhc] at HG
        exact reg18c (w.heap.size + 5) w6.heap.size L.pb R.ho M.r M.pc w7 HG KR5 HKR5 _ _ (by kernel_rfl) u1
      case false =>
      cases hho : R.ho
      case true =>
        rw [hhc, hho] at HG
        exact reg18o (w.heap.size + 5) w6.heap.size L.pb M.r M.pc w7 HG KR5 HKR5 _ _ (by kernel_rfl) u1
      case false =>
      rw [hhc, hho] at HG
      obtain ⟨g1, g2, g3⟩ := HEND.out.2.2.2 hhc hho
      have HT7 : Hid (∀ ω, Below w7.heap.size w7 ω → Blk ω w6.heap.size #[.int .u32 (M.r 0), .int .u32 (M.r 1), .int .u32 (M.r 2), .int .u32 (M.r 3), .int .u32 (M.r 4), .int .u32 (M.r 5), .int .u32 (M.r 6), .int .u32 (M.r 7), .int .u32 (M.r 8), .int .u32 (M.r 9), .int .u32 (M.r 10), .int .u32 (M.r 11), .int .u32 (M.r 12), .int .u32 (M.r 13), .int .u32 (M.r 14), .int .u32 (M.r 15), .int .u32 M.pc] 55) := fun ω k => (k.block _ HZ.out.2.lt).trans HZ.out.2
      have C22a : Hid (∀ ω, Below w7.heap.size w7 ω → Calls Try.prog 22 #[.pointer (some ⟨L.pb, 0, none⟩), .int .i64 0] ω fun e w' => e = .returned (.agg #[.int .u32 (M.r 0), .int .u32 (M.r 1), .int .u32 (M.r 2), .int .u32 (M.r 3), .int .u32 (M.r 4), .int .u32 (M.r 5), .int .u32 (M.r 6), .int .u32 (M.r 7), .int .u32 (M.r 8), .int .u32 (M.r 9), .int .u32 (M.r 10), .int .u32 (M.r 11), .int .u32 (M.r 12), .int .u32 (M.r 13), .int .u32 (M.r 14), .int .u32 (M.r 15), .int .u32 M.pc]) ∧ Below w7.heap.size w7 w') := fun ω k => by
        have h := state_0 L.pb L.bbP L.cbP L.ubP L.fv L.pv R.last R.BP ω ((HQ7.out ω k).1.pair HRUN.out).1 ((HQ7.out ω k).1.bP HRUN.out).b
        rw [g2, stV_congr M.pc (fun j hj => (g1 j hj).1)] at h
        exact h.mono fun e w' ⟨h1, h2⟩ => ⟨h1, k.trans (h2.mono k.size)⟩
      have C22b : Hid (∀ ω, Below w7.heap.size w7 ω → Calls Try.prog 22 #[.pointer (some ⟨L.pb, 0, none⟩), .int .i64 1] ω fun e w' => e = .returned (.agg #[.int .u32 (M.r 0), .int .u32 (M.r 1), .int .u32 (M.r 2), .int .u32 (M.r 3), .int .u32 (M.r 4), .int .u32 (M.r 5), .int .u32 (M.r 6), .int .u32 (M.r 7), .int .u32 (M.r 8), .int .u32 (M.r 9), .int .u32 (M.r 10), .int .u32 (M.r 11), .int .u32 (M.r 12), .int .u32 (M.r 13), .int .u32 (M.r 14), .int .u32 (M.r 15), .int .u32 M.pc]) ∧ Below w7.heap.size w7 w') := fun ω k => by
        have h := state_1 L.pb L.bbP L.cbP L.ubP L.fv L.pv R.last R.BP ω ((HQ7.out ω k).1.pair HRUN.out).1 ((HQ7.out ω k).1.bP HRUN.out).b
        rw [g3, stV_congr M.pc (fun j hj => (g1 j hj).2)] at h
        exact h.mono fun e w' ⟨h1, h2⟩ => ⟨h1, k.trans (h2.mono k.size)⟩
      exact reg18y (w.heap.size + 5) w6.heap.size L.pb M.r M.pc w7 HG HT7 C22a C22b KR5 HKR5 _ _ (by kernel_rfl) u1
    case rest5 =>
    rintro act w8 ⟨u, rfl, HB8⟩
    unfold fr3k
    go_wp2_with fail
    exact HKR2.out _ _ (by kernel_rfl) (HQ7.out _ HB8.out).2.2
  case rest2 =>
  clear HZA HEN HK HLG HSP HZV HGN HPN HB5
  rintro act wt ⟨u, rfl, HBT⟩
  have HQ : Hid (∀ ω, Below wt.heap.size wt ω → RR own ω L R ∧ Blk ω (w.heap.size + 5) (rigV L R) 38 ∧ Below w.heap.size w ω) := fun ω k => by
    have h := HBT.out.trans (k.mono HBT.out.size)
    exact ⟨HRR.out ω h, HCL.out ω h, HB.out ω h⟩
  clear HRR HCL HB HBT
  obtain ⟨da, dc, hdv⟩ := HR1.out.1.uD.u.log.form'
  obtain ⟨dn, hdn⟩ : ∃ dn, R.uD.log.length = dn := ⟨_, rfl⟩
  rw [hdn] at hdv
  obtain ⟨st, hst⟩ : ∃ st, R.DM.st = st := ⟨_, rfl⟩
  have HDN := hid_of hdn
  have HDV := hid_of hdv
  have HDS := hid_of hst
  have HST : Hid (∀ ω, Below wt.heap.size wt ω → Calls Try.prog 23 #[.pointer (some ⟨L.db, 0, none⟩)] ω fun e w' => e = .returned (.int .u8 st) ∧ w' = ω) := fun ω k => by
    rw [← hst]
    exact status_any L.db L.bbD L.ubD R.DM ω ((HQ.out ω k).1.dma HRUN.out).1
  have HLD : Hid (∀ ω, Below wt.heap.size wt ω → Calls Try.prog 13 #[.pointer (some ⟨L.ubD, 0, none⟩)] ω fun e w' => e = .returned (.slice da dn dc) ∧ w' = ω) := fun ω k => by
    rw [← hdv]
    exact log_any L.ubD L.mbD L.lvD L.gvD R.uD ω (HQ.out ω k).1.uD.u
  have HC : Hid (∀ ω, Below wt.heap.size wt ω → ω.cell? ⟨w.heap.size + 5, 21, none⟩ = some (.pointer (some ⟨L.db, 0, none⟩)) ∧ ω.cell? ⟨w.heap.size + 5, 3, none⟩ = some (.pointer (some ⟨L.ubD, 0, none⟩)) ∧ ω.cell? ⟨w.heap.size + 5, 1, none⟩ = some (.map (some L.img)) ∧ ω.cell? ⟨w.heap.size + 5, 19, none⟩ = some (.int .u32 R.desc)) := fun ω k => by
    have h9 := (HQ.out ω k).2.1
    refine ⟨?_, h9.cell 3, h9.cell 1, h9.cell 19⟩
    have h8 : ω.cell? ⟨w.heap.size + 5, 21, none⟩ = some (ptr R.run L.db) := h9.cell 21
    rw [HRUN.out] at h8
    exact h8
  have c18 : wt.cell? ⟨w.heap.size + 5, 18, none⟩ = some (.bool R.hd) := (HQ.out wt (Below.refl _ _)).2.1.cell 18
  clear hdv hdn hst
  cases hhd : R.hd
  case false =>
    rw [hhd] at c18
    have hid := HPF.out.1.idle HRUN.out hhd
    have h0 : st = 0 := by rw [← HDS.out]; exact hid.1
    have h1 : dn = 0 := by rw [← HDN.out, hid.2.1]; rfl
    subst h0
    subst h1
    obtain ⟨g21, g3, _, _⟩ := HC.out wt (Below.refl _ _)
    clear hid hhd
    unfold fr3c
    go_wp2_with fail
    refine (HST.out wt (Below.refl _ _)).mono ?_
    rintro e w9 ⟨rfl, hw9⟩
    obtain rfl := hw9.symm
    clear hw9
    go_wp2_with fail
    refine (HLD.out wt (Below.refl _ _)).mono ?_
    rintro e w9 ⟨rfl, hw9⟩
    obtain rfl := hw9.symm
    clear hw9
    go_wp2_with fail
    go_ret
    exact ⟨rfl, (HQ.out wt (Below.refl _ _)).2.2⟩
  case true =>
  rw [hhd] at c18
  have HHD := hid_of hhd
  clear hhd
  obtain ⟨dv, hdv⟩ : ∃ dv, inD R = dv := ⟨_, rfl⟩
  have HDD := hid_of hdv
  unfold inD at hdv
  obtain ⟨si, hsi⟩ : ∃ si, R.fo.site = si := ⟨_, rfl⟩
  have c5 : wt.cell? ⟨w.heap.size + 5, 5, none⟩ = some (.bool R.ho) := (HQ.out wt (Below.refl _ _)).2.1.cell 5
  have c11 : wt.cell? ⟨w.heap.size + 5, 11, none⟩ = some (.int .u32 si) := by rw [← hsi]; exact (HQ.out wt (Below.refl _ _)).2.1.cell 11
  rw [hsi] at hdv
  clear hsi
  unfold fr3c
  go_upto_region 22 with fail
  clear c18
  refine cutM (Km := fun act wd => ∃ u, act = fr3d (w.heap.size + 5) dv u ∧ Hid (wd = wt)) ?rest6 ?first6
  case first6 =>
    obtain ⟨KR6, hKR6⟩ : ∃ KR : Act → World → Prop, KR = fun act wd => ∃ u, act = fr3d (w.heap.size + 5) dv u ∧ Hid (wd = wt) := ⟨_, rfl⟩
    have HKR6 : Hid (∀ (act : Act), act = fr3d (w.heap.size + 5) dv (fun i => act.tmps.getD i undef) → KR6 act wt) := fun act e => by rw [hKR6]; exact ⟨_, e, rfl⟩
    rw [← hKR6]
    clear hKR6
    cases hho : R.ho
    · rw [hho] at hdv c5
      have hd2 : dv = false := by rw [← hdv]; rfl
      subst hd2
      clear hdv hho
      go_wp2_with fail
      exact HKR6.out _ (by kernel_rfl)
    · rw [hho] at hdv c5
      by_cases h49 : 49 ≤ si
      · rw [decide_eq_true h49] at hdv
        have hd2 : decide (si < 55) = dv := hdv
        subst hd2
        clear hdv hho
        go_wp2_with fail
        exact HKR6.out _ (by kernel_rfl)
      · rw [decide_eq_false h49] at hdv
        have hd2 : dv = false := by rw [← hdv]; rfl
        subst hd2
        clear hdv hho
        go_wp2_with fail
        exact HKR6.out _ (by kernel_rfl)
  case rest6 =>
  clear hdv c5 c11
  rintro act wd ⟨u, rfl, HWD⟩
  obtain rfl := HWD.out.symm
  clear HWD
  obtain ⟨sb, hsb⟩ : ∃ sb, sndB R.img R.desc = sb := ⟨_, rfl⟩
  have HSB := hid_of hsb
  have HSO : Hid (Calls Try.prog 24 #[.pointer (some ⟨w.heap.size + 5, 0, none⟩)] wt fun e w' => e = .returned (.bool sb) ∧ Below wt.heap.size wt w') := by
    have := sound_any own L R HPF.out.1.wi wt (HQ.out wt (Below.refl _ _)).1
    rw [HR1.out.2.2, hsb] at this
    exact this
  clear hsb
  obtain ⟨nv, hnv⟩ : ∃ nv, (dv && !sb) = nv := ⟨_, rfl⟩
  have HNV := hid_of hnv
  unfold fr3d
  go_upto_region 23 with fail
  refine cutM (Km := fun act wd => ∃ u, act = fr3n (w.heap.size + 5) dv nv u ∧ Hid (Below wt.heap.size wt wd)) ?rest7 ?first7
  case first7 =>
    obtain ⟨KR7, hKR7⟩ : ∃ KR : Act → World → Prop, KR = fun act wd => ∃ u, act = fr3n (w.heap.size + 5) dv nv u ∧ Hid (Below wt.heap.size wt wd) := ⟨_, rfl⟩
    have HKR7 : Hid (∀ (act : Act) (wd : World), act = fr3n (w.heap.size + 5) dv nv (fun i => act.tmps.getD i undef) → Below wt.heap.size wt wd → KR7 act wd) := fun act wd e h => by rw [hKR7]; exact ⟨_, e, h⟩
    rw [← hKR7]
    clear hKR7
    cases dv
    · have hn2 : nv = false := by rw [← hnv]; rfl
      subst hn2
      clear hnv
      go_wp2_with fail
      exact HKR7.out _ _ (by kernel_rfl) (Below.refl _ _)
    · have hn2 : (!sb) = nv := hnv
      subst hn2
      clear hnv
      go_wp2_with fail
      refine HSO.out.mono ?_
      rintro e w9 ⟨rfl, hb9⟩
      have HB9 := hid_of hb9
      clear HSO hb9
      go_wp2_with fail
      exact HKR7.out _ _ (by kernel_rfl) HB9.out
  case rest7 =>
  clear hnv HSO
  rintro act wd ⟨u, rfl, HBD⟩
  unfold fr3n
  cases nv
  case true =>
    go_wp2_with fail
    go_ret
    exact ⟨rfl, (HQ.out wd HBD.out).2.2⟩
  case false =>
  have HSD : Hid (inD R = true → sndM R.img R.desc) := fun q => by
    have h1 := HNV.out
    have h2 : dv = true := HDD.out.symm.trans q
    rw [h2] at h1
    have h3 : sb = true := by simpa using h1
    exact (sndB_iff _ _).1 (HSB.out.trans h3)
  clear HNV HSB
  obtain ⟨PV, hPV⟩ : ∃ PV : Option Addr → Nat → Nat → Int → World → Prop, PV = fun ga gn gc ms w' => Below wt.heap.size wt w' ∧ ∃ k, (asN (as0 R.img R.desc) k).D.st = ms ∧ ms ≠ 1 ∧ (asN (as0 R.img R.desc) k).log.length = gn ∧ Sl w' (.slice ga gn gc) 68 5 gn ((asN (as0 R.img R.desc) k).log.flatMap trow) := ⟨_, rfl⟩
  have HPV := hid_of hPV
  have HF : Hid (∀ ω, Below wd.heap.size wd ω → ω.cell? ⟨w.heap.size + 5, 1, none⟩ = some (.map (some L.img)) ∧ ω.cell? ⟨w.heap.size + 5, 19, none⟩ = some (.int .u32 R.desc)) := fun ω k => (HC.out ω (HBD.out.trans (k.mono HBD.out.size))).2.2
  have CC : Hid (∀ ω, Below wd.heap.size wd ω → Calls Try.prog 26 #[.map (some L.img)] ω fun e w' => ∃ nb, e = .returned (.map (some nb)) ∧ Below wd.heap.size wd w' ∧ Calls Try.prog 25 #[.map (some nb), .int .u32 R.desc] w' fun e w2 => ∃ (ga : Option Addr) (gn gc : Nat) (ms : Int), e = .returned (.tuple #[.slice ga gn gc, .int .u8 ms]) ∧ PV ga gn gc ms w2) := fun ω k => by
    have hk := HBD.out.trans (k.mono HBD.out.size)
    refine (mclone_any L.img R.img ω (HQ.out ω hk).1.img.1).mono ?_
    rintro e w3 ⟨he, hm3, hb3⟩
    refine ⟨_, he, k.trans (hb3.mono k.size), ?_⟩
    refine (dmam_any ω.heap.size R.img R.desc HPF.out.1.wi HPF.out.1.ok.desc w3 hm3).mono ?_
    rintro e w4 ⟨v, k9, rfl, hk1, hk2, hk3, hk4, hk5⟩
    obtain ⟨ga, gc, hgv⟩ := hk2.form'
    subst hgv
    refine ⟨ga, _, gc, _, rfl, ?_⟩
    rw [hPV]
    refine ⟨hk.trans (Below.mono ?_ hk.size), k9, rfl, hk1, rfl, hk2⟩
    exact ⟨hk4.os.trans hb3.os, hk4.tape.trans hb3.tape, hk4.output.trans hb3.output, Nat.le_trans hb3.size hk4.size, fun b hb => (hk4.block b (Nat.lt_of_lt_of_le hb hb3.size) (by omega)).trans (hb3.block b hb)⟩
  clear hPV
  go_upto_region 25 with fail
  refine cutM (Km := fun act w9 => ∃ (u : Nat → Value) (ga : Option Addr) (gn gc : Nat) (ms : Int), act = fr3m (w.heap.size + 5) dv ga gn gc ms u ∧ Hid (PV ga gn gc ms w9)) ?rest8 ?first8
  case first8 =>
    obtain ⟨KR8, hKR8⟩ : ∃ KR : Act → World → Prop, KR = fun act w9 => ∃ (u : Nat → Value) (ga : Option Addr) (gn gc : Nat) (ms : Int), act = fr3m (w.heap.size + 5) dv ga gn gc ms u ∧ Hid (PV ga gn gc ms w9) := ⟨_, rfl⟩
    have HKR8 : Hid (∀ (act : Act) (w' : World) (ga : Option Addr) (gn gc : Nat) (ms : Int), act = fr3m (w.heap.size + 5) dv ga gn gc ms (fun i => act.tmps.getD i undef) → PV ga gn gc ms w' → KR8 act w') := fun act w' ga gn gc ms e h => by rw [hKR8]; exact ⟨_, ga, gn, gc, ms, e, h⟩
    rw [← hKR8]
    clear hKR8
    refine q_of (Q := fun a => Code.wp Try.prog _ (Exit.then KR8 _) a wd) (F := fr3q (w.heap.size + 5) dv) (fun u1 => ?_) _ (by kernel_rfl)
    exact reg25 (w.heap.size + 5) L.img dv R.desc wd PV HF CC KR8 HKR8 _ _ (by kernel_rfl) u1
  case rest8 =>
  clear HF CC
  rintro act w9 ⟨u, xa, xn, xc, ms, rfl, HP9⟩
  rw [HPV.out] at HP9
  clear HPV HBD
  have HB9 : Hid (Below wt.heap.size wt w9) := HP9.out.1
  have HFN : Hid ((∀ ω, Below w9.heap.size w9 ω → Calls Try.prog 16 #[.slice da dn dc, .slice xa xn xc] ω fun e w' => e = .returned (.bool true) ∧ Below w9.heap.size w9 w') ∧ (st = 1 ∨ (dv = true ∧ (st = 3 ∨ st = 5)) ∨ (st = ms ∧ dn = xn ∧ st ≠ 1))) := by
    obtain ⟨_, k, k1, k2, k3, k4⟩ := HP9.out
    have hk : (asN (as0 R.img R.desc) k).D.st ≠ 1 := by rw [k1]; exact k2
    obtain ⟨⟨l, hl⟩, hd⟩ := f3_dma HPF.out.1 HRUN.out HHD.out HPF.out.2.1 HSD.out hk
    have hsh := asN_short HPF.out.1.wi hk
    refine ⟨fun ω k' => ?_, ?_⟩
    · have h8 := (HQ.out ω (HB9.out.trans (k'.mono HB9.out.size))).1.uD.u.log
      have h9 : Sl ω (.slice xa xn xc) 68 5 xn ((asN (as0 R.img R.desc) k).log.flatMap trow) := k4.same fun b hb => k'.block b (k4.lt b hb)
      rw [← k3, hl] at h9
      rw [← HDV.out]
      have h10 := isPre_yes L.gvD (.slice xa xn xc) R.uD.log l ω h8 (by rw [← k3, hl]; exact h9) (by rw [← hl]; omega)
      exact h10.mono fun e w' ⟨z1, z2⟩ => ⟨z1, k'.trans (z2.mono k'.size)⟩
    · rw [HDS.out, HDD.out, k1] at hd
      rcases hd with q | q | q
      · exact .inl q
      · exact .inr (.inl q)
      · exact .inr (.inr ⟨q.1, by rw [← HDN.out, q.2, k3], by rw [q.1]; exact k2⟩)
  clear HP9 HSD HHD HDS HDN HDV HDD
  obtain ⟨g21, _, _, _⟩ := HC.out w9 HB9.out
  unfold fr3m
  go_wp2_with fail
  refine (HST.out w9 HB9.out).mono ?_
  rintro e w10 ⟨rfl, hw10⟩
  obtain rfl := hw10.symm
  clear hw10 g21 HST
  obtain ⟨cv, hcv⟩ : ∃ cv, (dv && (st == 3 || st == 5)) = cv := ⟨_, rfl⟩
  have HCV := hid_of hcv
  go_upto_region 27 with fail
  refine cutM (Km := fun act wd2 => ∃ u, act = fr3p (w.heap.size + 5) xa xn xc ms st cv u ∧ Hid (wd2 = w9)) ?rest9 ?first9
  case first9 =>
    obtain ⟨KR9, hKR9⟩ : ∃ KR : Act → World → Prop, KR = fun act wd2 => ∃ u, act = fr3p (w.heap.size + 5) xa xn xc ms st cv u ∧ Hid (wd2 = w9) := ⟨_, rfl⟩
    have HKR9 : Hid (∀ (act : Act), act = fr3p (w.heap.size + 5) xa xn xc ms st cv (fun i => act.tmps.getD i undef) → KR9 act w9) := fun act e => by rw [hKR9]; exact ⟨_, e, rfl⟩
    rw [← hKR9]
    clear hKR9
    cases dv
    · have hc2 : cv = false := by rw [← hcv]; rfl
      subst hc2
      clear hcv
      go_wp2_with fail
      exact HKR9.out _ (by kernel_rfl)
    · cases h3 : (st == 3)
      · rw [h3] at hcv
        have hc2 : (st == 5) = cv := hcv
        subst hc2
        clear hcv
        go_wp2_with fail
        exact HKR9.out _ (by kernel_rfl)
      · rw [h3] at hcv
        have hc2 : cv = true := by rw [← hcv]; rfl
        subst hc2
        clear hcv
        go_wp2_with fail
        exact HKR9.out _ (by kernel_rfl)
  case rest9 =>
  clear hcv
  rintro act wd2 ⟨u, rfl, HWD⟩
  obtain rfl := HWD.out.symm
  clear HWD
  obtain ⟨_, g3, _, _⟩ := HC.out w9 HB9.out
  unfold fr3p
  go_wp2_with fail
  refine (HLD.out w9 HB9.out).mono ?_
  rintro e w10 ⟨rfl, hw10⟩
  obtain rfl := hw10.symm
  clear hw10 g3
  go_wp2_with fail
  refine (HFN.out.1 w9 (Below.refl _ _)).mono ?_
  rintro e w10 ⟨rfl, hb10⟩
  have HB10 : Hid (Below wt.heap.size wt w10) := HB9.out.trans (hb10.mono HB9.out.size)
  clear hb10
  cases h1 : (st == 1)
  case true =>
    go_wp2_with fail
    go_ret
    exact ⟨rfl, (HQ.out _ HB10.out).2.2⟩
  case false =>
  have h1n : st ≠ 1 := by simpa using h1
  cases cv
  case true =>
    clear h1n
    go_wp2_with fail
    go_ret
    exact ⟨rfl, (HQ.out _ HB10.out).2.2⟩
  case false =>
  have hfin : st = ms ∧ dn = xn := by
    rcases HFN.out.2 with q | q | q
    · exact absurd q h1n
    · exfalso
      have h9 := HCV.out
      rw [q.1] at h9
      rcases q.2 with z | z
      · rw [z] at h9; cases h9
      · rw [z] at h9; cases h9
    · exact ⟨q.1, q.2.1⟩
  obtain ⟨hf1, hf2⟩ := hfin
  subst hf1
  subst hf2
  obtain ⟨_, g3, _, _⟩ := HC.out w10 HB10.out
  clear h1n HFN
  go_wp2_with fail
  refine (HLD.out w10 HB10.out).mono ?_
  rintro e w11 ⟨rfl, hw11⟩
  obtain rfl := hw11.symm
  clear hw11 g3
  go_wp2_with fail
  go_ret
  exact ⟨rfl, (HQ.out _ HB10.out).2.2⟩
end Go.Proofs.Qxb6500749a

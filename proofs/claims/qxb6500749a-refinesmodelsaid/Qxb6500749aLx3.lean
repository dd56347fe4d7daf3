import Derived.Test.Qxb6500749aLx4
namespace Go.Proofs.Qxb6500749a
open Go.RowKit
attribute [local go_sem] put_size put_cell_same put_cell_ne put_frozen_same put_frozen_ne put_setCell_same put_setCell_ne put_drew
attribute [local go_sem] drewN_setCell drewN_alloc drewN_put
/-! ### Law 3: the comparison where the pair has stopped -/
def fr3v (rg mb : Nat) (u : Nat → Value) : Act :=
  { tmps := ((u 0) :: (u 1) :: (u 2) :: (.pointer (some ⟨rg, 0, none⟩)) :: (.pointer (some ⟨mb, 0, none⟩)) :: (u 5) :: (u 6) :: (u 7) :: (u 8) :: (u 9) :: (u 10) :: (u 11) :: (u 12) :: (u 13) :: (u 14) :: (u 15) :: (u 16) :: (u 17) :: (u 18) :: (u 19) :: (u 20) :: (u 21) :: (u 22) :: (u 23) :: (u 24) :: (u 25) :: (u 26) :: (u 27) :: (u 28) :: (u 29) :: (u 30) :: (u 31) :: (u 32) :: (u 33) :: (u 34) :: (u 35) :: (u 36) :: (u 37) :: (u 38) :: (u 39) :: (u 40) :: (u 41) :: (u 42) :: (u 43) :: (u 44) :: (u 45) :: (u 46) :: (u 47) :: (u 48) :: (u 49) :: (u 50) :: (u 51) :: (u 52) :: (u 53) :: (u 54) :: (u 55) :: (u 56) :: (u 57) :: (u 58) :: (u 59) :: (u 60) :: (u 61) :: (u 62) :: (u 63) :: (u 64) :: (u 65) :: (u 66) :: (u 67) :: (u 68) :: (u 69) :: (u 70) :: (u 71) :: (u 72) :: (u 73) :: (u 74) :: (u 75) :: (u 76) :: (u 77) :: (u 78) :: (u 79) :: (u 80) :: (u 81) :: (u 82) :: (u 83) :: (u 84) :: (u 85) :: (u 86) :: (u 87) :: (u 88) :: (u 89) :: (u 90) :: (u 91) :: (u 92) :: (u 93) :: (u 94) :: (u 95) :: (u 96) :: (u 97) :: (u 98) :: (u 99) :: (u 100) :: (u 101) :: (u 102) :: (u 103) :: (u 104) :: (u 105) :: (u 106) :: (u 107) :: (u 108) :: (u 109) :: (u 110) :: (u 111) :: (u 112) :: (u 113) :: (u 114) :: (u 115) :: (u 116) :: (u 117) :: (u 118) :: (u 119) :: (u 120) :: (u 121) :: (u 122) :: (u 123) :: (u 124) :: (u 125) :: (u 126) :: (u 127) :: (u 128) :: (u 129) :: (u 130) :: (u 131) :: (u 132) :: (u 133) :: (u 134) :: (u 135) :: (u 136) :: (u 137) :: (u 138) :: (u 139) :: (u 140) :: (u 141) :: (u 142) :: (u 143) :: (u 144) :: (u 145) :: (u 146) :: (u 147) :: (u 148) :: (u 149) :: (u 150) :: (u 151) :: (u 152) :: (u 153) :: (u 154) :: (u 155) :: (u 156) :: (u 157) :: (u 158) :: (u 159) :: (u 160) :: (u 161) :: (u 162) :: (u 163) :: (u 164) :: (u 165) :: (u 166) :: (u 167) :: (u 168) :: (u 169) :: (u 170) :: (u 171) :: (u 172) :: (u 173) :: (u 174) :: (u 175) :: (u 176) :: (u 177) :: (u 178) :: (u 179) :: (u 180) :: (u 181) :: (u 182) :: (u 183) :: (u 184) :: (u 185) :: (u 186) :: (u 187) :: (u 188) :: (u 189) :: (u 190) :: (u 191) :: (u 192) :: (u 193) :: (u 194) :: (u 195) :: (u 196) :: (u 197) :: (u 198) :: (u 199) :: (u 200) :: (u 201) :: (u 202) :: (u 203) :: (u 204) :: (u 205) :: (u 206) :: (u 207) :: (u 208) :: (u 209) :: (u 210) :: (u 211) :: (u 212) :: (u 213) :: (u 214) :: (u 215) :: (u 216) :: (u 217) :: (u 218) :: (u 219) :: (u 220) :: (u 221) :: (u 222) :: (u 223) :: (u 224) :: (u 225) :: (u 226) :: (u 227) :: (u 228) :: (u 229) :: (u 230) :: (u 231) :: (u 232) :: (u 233) :: (u 234) :: (u 235) :: (u 236) :: (u 237) :: (u 238) :: (u 239) :: (u 240) :: (u 241) :: (u 242) :: (u 243) :: (u 244) :: (u 245) :: (u 246) :: (u 247) :: (u 248) :: (u 249) :: [] : List Value).toArray, defers := [] }
def fr3g1 (rg mb : Nat) (u : Nat → Value) : Act :=
  { tmps := ((u 0) :: (u 1) :: (u 2) :: (.pointer (some ⟨rg, 0, none⟩)) :: (.pointer (some ⟨mb, 0, none⟩)) :: (u 5) :: (u 6) :: (u 7) :: (u 8) :: (u 9) :: (u 10) :: (u 11) :: (u 12) :: (u 13) :: (u 14) :: (u 15) :: (u 16) :: (u 17) :: (u 18) :: (u 19) :: (u 20) :: (u 21) :: (u 22) :: (u 23) :: (u 24) :: (u 25) :: (u 26) :: (u 27) :: (u 28) :: (u 29) :: (u 30) :: (u 31) :: (u 32) :: (u 33) :: (u 34) :: (u 35) :: (u 36) :: (u 37) :: (u 38) :: (u 39) :: (u 40) :: (u 41) :: (u 42) :: (u 43) :: (u 44) :: (u 45) :: (u 46) :: (u 47) :: (u 48) :: (u 49) :: (u 50) :: (u 51) :: (u 52) :: (u 53) :: (u 54) :: (u 55) :: (u 56) :: (u 57) :: (u 58) :: (u 59) :: (u 60) :: (u 61) :: (u 62) :: (u 63) :: (u 64) :: (u 65) :: (u 66) :: (u 67) :: (u 68) :: (u 69) :: (u 70) :: (u 71) :: (u 72) :: (u 73) :: (u 74) :: (u 75) :: (u 76) :: (u 77) :: (u 78) :: (u 79) :: (u 80) :: (u 81) :: (u 82) :: (u 83) :: (.bool false) :: (u 85) :: (u 86) :: (u 87) :: (u 88) :: (u 89) :: (u 90) :: (u 91) :: (u 92) :: (u 93) :: (u 94) :: (u 95) :: (u 96) :: (u 97) :: (u 98) :: (u 99) :: (u 100) :: (u 101) :: (u 102) :: (u 103) :: (u 104) :: (u 105) :: (u 106) :: (u 107) :: (u 108) :: (u 109) :: (u 110) :: (u 111) :: (u 112) :: (u 113) :: (u 114) :: (u 115) :: (u 116) :: (u 117) :: (u 118) :: (u 119) :: (u 120) :: (u 121) :: (u 122) :: (u 123) :: (u 124) :: (u 125) :: (u 126) :: (u 127) :: (u 128) :: (u 129) :: (u 130) :: (u 131) :: (u 132) :: (u 133) :: (u 134) :: (u 135) :: (u 136) :: (u 137) :: (u 138) :: (u 139) :: (u 140) :: (u 141) :: (u 142) :: (u 143) :: (u 144) :: (u 145) :: (u 146) :: (u 147) :: (u 148) :: (u 149) :: (u 150) :: (u 151) :: (u 152) :: (u 153) :: (u 154) :: (u 155) :: (u 156) :: (u 157) :: (u 158) :: (u 159) :: (u 160) :: (u 161) :: (u 162) :: (u 163) :: (u 164) :: (u 165) :: (u 166) :: (u 167) :: (u 168) :: (u 169) :: (u 170) :: (u 171) :: (u 172) :: (u 173) :: (u 174) :: (u 175) :: (u 176) :: (u 177) :: (u 178) :: (u 179) :: (u 180) :: (u 181) :: (u 182) :: (u 183) :: (u 184) :: (u 185) :: (u 186) :: (u 187) :: (u 188) :: (u 189) :: (u 190) :: (u 191) :: (u 192) :: (u 193) :: (u 194) :: (u 195) :: (u 196) :: (u 197) :: (u 198) :: (u 199) :: (u 200) :: (u 201) :: (u 202) :: (u 203) :: (u 204) :: (u 205) :: (u 206) :: (u 207) :: (u 208) :: (u 209) :: (u 210) :: (u 211) :: (u 212) :: (u 213) :: (u 214) :: (u 215) :: (u 216) :: (u 217) :: (u 218) :: (u 219) :: (u 220) :: (u 221) :: (u 222) :: (u 223) :: (u 224) :: (u 225) :: (u 226) :: (u 227) :: (u 228) :: (u 229) :: (u 230) :: (u 231) :: (u 232) :: (u 233) :: (u 234) :: (u 235) :: (u 236) :: (u 237) :: (u 238) :: (u 239) :: (u 240) :: (u 241) :: (u 242) :: (u 243) :: (u 244) :: (u 245) :: (u 246) :: (u 247) :: (u 248) :: (u 249) :: [] : List Value).toArray, defers := [] }
def fr3g2 (rg mb : Nat) (u : Nat → Value) : Act :=
  { tmps := ((u 0) :: (u 1) :: (u 2) :: (.pointer (some ⟨rg, 0, none⟩)) :: (.pointer (some ⟨mb, 0, none⟩)) :: (u 5) :: (u 6) :: (u 7) :: (u 8) :: (u 9) :: (u 10) :: (u 11) :: (u 12) :: (u 13) :: (u 14) :: (u 15) :: (u 16) :: (u 17) :: (u 18) :: (u 19) :: (u 20) :: (u 21) :: (u 22) :: (u 23) :: (u 24) :: (u 25) :: (u 26) :: (u 27) :: (u 28) :: (u 29) :: (u 30) :: (u 31) :: (u 32) :: (u 33) :: (u 34) :: (u 35) :: (u 36) :: (u 37) :: (u 38) :: (u 39) :: (u 40) :: (u 41) :: (u 42) :: (u 43) :: (u 44) :: (u 45) :: (u 46) :: (u 47) :: (u 48) :: (u 49) :: (u 50) :: (u 51) :: (u 52) :: (u 53) :: (u 54) :: (u 55) :: (u 56) :: (u 57) :: (u 58) :: (u 59) :: (u 60) :: (u 61) :: (u 62) :: (u 63) :: (u 64) :: (u 65) :: (u 66) :: (u 67) :: (u 68) :: (u 69) :: (u 70) :: (u 71) :: (u 72) :: (u 73) :: (u 74) :: (u 75) :: (u 76) :: (u 77) :: (u 78) :: (u 79) :: (u 80) :: (u 81) :: (u 82) :: (u 83) :: (u 84) :: (u 85) :: (u 86) :: (u 87) :: (u 88) :: (u 89) :: (u 90) :: (u 91) :: (u 92) :: (u 93) :: (u 94) :: (u 95) :: (.bool false) :: (u 97) :: (u 98) :: (u 99) :: (u 100) :: (u 101) :: (u 102) :: (u 103) :: (u 104) :: (u 105) :: (u 106) :: (u 107) :: (u 108) :: (u 109) :: (u 110) :: (u 111) :: (u 112) :: (u 113) :: (u 114) :: (u 115) :: (u 116) :: (u 117) :: (u 118) :: (u 119) :: (u 120) :: (u 121) :: (u 122) :: (u 123) :: (u 124) :: (u 125) :: (u 126) :: (u 127) :: (u 128) :: (u 129) :: (u 130) :: (u 131) :: (u 132) :: (u 133) :: (u 134) :: (u 135) :: (u 136) :: (u 137) :: (u 138) :: (u 139) :: (u 140) :: (u 141) :: (u 142) :: (u 143) :: (u 144) :: (u 145) :: (u 146) :: (u 147) :: (u 148) :: (u 149) :: (u 150) :: (u 151) :: (u 152) :: (u 153) :: (u 154) :: (u 155) :: (u 156) :: (u 157) :: (u 158) :: (u 159) :: (u 160) :: (u 161) :: (u 162) :: (u 163) :: (u 164) :: (u 165) :: (u 166) :: (u 167) :: (u 168) :: (u 169) :: (u 170) :: (u 171) :: (u 172) :: (u 173) :: (u 174) :: (u 175) :: (u 176) :: (u 177) :: (u 178) :: (u 179) :: (u 180) :: (u 181) :: (u 182) :: (u 183) :: (u 184) :: (u 185) :: (u 186) :: (u 187) :: (u 188) :: (u 189) :: (u 190) :: (u 191) :: (u 192) :: (u 193) :: (u 194) :: (u 195) :: (u 196) :: (u 197) :: (u 198) :: (u 199) :: (u 200) :: (u 201) :: (u 202) :: (u 203) :: (u 204) :: (u 205) :: (u 206) :: (u 207) :: (u 208) :: (u 209) :: (u 210) :: (u 211) :: (u 212) :: (u 213) :: (u 214) :: (u 215) :: (u 216) :: (u 217) :: (u 218) :: (u 219) :: (u 220) :: (u 221) :: (u 222) :: (u 223) :: (u 224) :: (u 225) :: (u 226) :: (u 227) :: (u 228) :: (u 229) :: (u 230) :: (u 231) :: (u 232) :: (u 233) :: (u 234) :: (u 235) :: (u 236) :: (u 237) :: (u 238) :: (u 239) :: (u 240) :: (u 241) :: (u 242) :: (u 243) :: (u 244) :: (u 245) :: (u 246) :: (u 247) :: (u 248) :: (u 249) :: [] : List Value).toArray, defers := [] }
def fr3e (rg mb : Nat) (u : Nat → Value) : Act :=
  { tmps := ((u 0) :: (u 1) :: (u 2) :: (.pointer (some ⟨rg, 0, none⟩)) :: (.pointer (some ⟨mb, 0, none⟩)) :: (u 5) :: (u 6) :: (u 7) :: (u 8) :: (u 9) :: (u 10) :: (u 11) :: (u 12) :: (u 13) :: (u 14) :: (u 15) :: (u 16) :: (u 17) :: (u 18) :: (u 19) :: (u 20) :: (u 21) :: (u 22) :: (u 23) :: (u 24) :: (u 25) :: (u 26) :: (u 27) :: (u 28) :: (u 29) :: (u 30) :: (u 31) :: (u 32) :: (u 33) :: (u 34) :: (u 35) :: (u 36) :: (u 37) :: (u 38) :: (u 39) :: (u 40) :: (u 41) :: (u 42) :: (u 43) :: (u 44) :: (u 45) :: (u 46) :: (u 47) :: (u 48) :: (u 49) :: (u 50) :: (u 51) :: (u 52) :: (u 53) :: (u 54) :: (u 55) :: (u 56) :: (u 57) :: (u 58) :: (u 59) :: (u 60) :: (u 61) :: (u 62) :: (u 63) :: (u 64) :: (u 65) :: (u 66) :: (u 67) :: (u 68) :: (u 69) :: (u 70) :: (u 71) :: (u 72) :: (u 73) :: (u 74) :: (u 75) :: (u 76) :: (u 77) :: (u 78) :: (u 79) :: (u 80) :: (u 81) :: (u 82) :: (u 83) :: (u 84) :: (u 85) :: (u 86) :: (u 87) :: (u 88) :: (u 89) :: (u 90) :: (u 91) :: (u 92) :: (u 93) :: (u 94) :: (u 95) :: (u 96) :: (u 97) :: (u 98) :: (u 99) :: (u 100) :: (u 101) :: (u 102) :: (u 103) :: (u 104) :: (u 105) :: (u 106) :: (.bool false) :: (u 108) :: (u 109) :: (u 110) :: (u 111) :: (u 112) :: (u 113) :: (u 114) :: (u 115) :: (u 116) :: (u 117) :: (u 118) :: (u 119) :: (u 120) :: (u 121) :: (u 122) :: (u 123) :: (u 124) :: (u 125) :: (u 126) :: (u 127) :: (u 128) :: (u 129) :: (u 130) :: (u 131) :: (u 132) :: (u 133) :: (u 134) :: (u 135) :: (u 136) :: (u 137) :: (u 138) :: (u 139) :: (u 140) :: (u 141) :: (u 142) :: (u 143) :: (u 144) :: (u 145) :: (u 146) :: (u 147) :: (u 148) :: (u 149) :: (u 150) :: (u 151) :: (u 152) :: (u 153) :: (u 154) :: (u 155) :: (u 156) :: (u 157) :: (u 158) :: (u 159) :: (u 160) :: (u 161) :: (u 162) :: (u 163) :: (u 164) :: (u 165) :: (u 166) :: (u 167) :: (u 168) :: (u 169) :: (u 170) :: (u 171) :: (u 172) :: (u 173) :: (u 174) :: (u 175) :: (u 176) :: (u 177) :: (u 178) :: (u 179) :: (u 180) :: (u 181) :: (u 182) :: (u 183) :: (u 184) :: (u 185) :: (u 186) :: (u 187) :: (u 188) :: (u 189) :: (u 190) :: (u 191) :: (u 192) :: (u 193) :: (u 194) :: (u 195) :: (u 196) :: (u 197) :: (u 198) :: (u 199) :: (u 200) :: (u 201) :: (u 202) :: (u 203) :: (u 204) :: (u 205) :: (u 206) :: (u 207) :: (u 208) :: (u 209) :: (u 210) :: (u 211) :: (u 212) :: (u 213) :: (u 214) :: (u 215) :: (u 216) :: (u 217) :: (u 218) :: (u 219) :: (u 220) :: (u 221) :: (u 222) :: (u 223) :: (u 224) :: (u 225) :: (u 226) :: (u 227) :: (u 228) :: (u 229) :: (u 230) :: (u 231) :: (u 232) :: (u 233) :: (u 234) :: (u 235) :: (u 236) :: (u 237) :: (u 238) :: (u 239) :: (u 240) :: (u 241) :: (u 242) :: (u 243) :: (u 244) :: (u 245) :: (u 246) :: (u 247) :: (u 248) :: (u 249) :: [] : List Value).toArray, defers := [] }
def fr3t (rg tb : Nat) (u : Nat → Value) : Act :=
  { tmps := ((u 0) :: (u 1) :: (u 2) :: (.pointer (some ⟨rg, 0, none⟩)) :: (u 4) :: (u 5) :: (.pointer (some ⟨tb, 0, none⟩)) :: (u 7) :: (u 8) :: (u 9) :: (u 10) :: (u 11) :: (u 12) :: (u 13) :: (u 14) :: (u 15) :: (u 16) :: (u 17) :: (u 18) :: (u 19) :: (u 20) :: (u 21) :: (u 22) :: (u 23) :: (u 24) :: (u 25) :: (u 26) :: (u 27) :: (u 28) :: (u 29) :: (u 30) :: (u 31) :: (u 32) :: (u 33) :: (u 34) :: (u 35) :: (u 36) :: (u 37) :: (u 38) :: (u 39) :: (u 40) :: (u 41) :: (u 42) :: (u 43) :: (u 44) :: (u 45) :: (u 46) :: (u 47) :: (u 48) :: (u 49) :: (u 50) :: (u 51) :: (u 52) :: (u 53) :: (u 54) :: (u 55) :: (u 56) :: (u 57) :: (u 58) :: (u 59) :: (u 60) :: (u 61) :: (u 62) :: (u 63) :: (u 64) :: (u 65) :: (u 66) :: (u 67) :: (u 68) :: (u 69) :: (u 70) :: (u 71) :: (u 72) :: (u 73) :: (u 74) :: (u 75) :: (u 76) :: (u 77) :: (u 78) :: (u 79) :: (u 80) :: (u 81) :: (u 82) :: (u 83) :: (u 84) :: (u 85) :: (u 86) :: (u 87) :: (u 88) :: (u 89) :: (u 90) :: (u 91) :: (u 92) :: (u 93) :: (u 94) :: (u 95) :: (u 96) :: (u 97) :: (u 98) :: (u 99) :: (u 100) :: (u 101) :: (u 102) :: (u 103) :: (u 104) :: (u 105) :: (u 106) :: (u 107) :: (u 108) :: (u 109) :: (u 110) :: (u 111) :: (u 112) :: (u 113) :: (u 114) :: (u 115) :: (u 116) :: (u 117) :: (u 118) :: (u 119) :: (u 120) :: (u 121) :: (u 122) :: (u 123) :: (u 124) :: (u 125) :: (u 126) :: (u 127) :: (u 128) :: (u 129) :: (u 130) :: (u 131) :: (u 132) :: (u 133) :: (u 134) :: (u 135) :: (u 136) :: (u 137) :: (u 138) :: (u 139) :: (u 140) :: (u 141) :: (u 142) :: (u 143) :: (u 144) :: (u 145) :: (u 146) :: (u 147) :: (u 148) :: (u 149) :: (u 150) :: (u 151) :: (u 152) :: (u 153) :: (u 154) :: (u 155) :: (u 156) :: (u 157) :: (u 158) :: (u 159) :: (u 160) :: (u 161) :: (u 162) :: (u 163) :: (u 164) :: (u 165) :: (u 166) :: (u 167) :: (u 168) :: (u 169) :: (u 170) :: (u 171) :: (u 172) :: (u 173) :: (u 174) :: (u 175) :: (u 176) :: (u 177) :: (u 178) :: (u 179) :: (u 180) :: (u 181) :: (u 182) :: (u 183) :: (u 184) :: (u 185) :: (u 186) :: (u 187) :: (u 188) :: (u 189) :: (u 190) :: (u 191) :: (u 192) :: (u 193) :: (u 194) :: (u 195) :: (u 196) :: (u 197) :: (u 198) :: (u 199) :: (u 200) :: (u 201) :: (u 202) :: (u 203) :: (u 204) :: (u 205) :: (u 206) :: (u 207) :: (u 208) :: (u 209) :: (u 210) :: (u 211) :: (u 212) :: (u 213) :: (u 214) :: (u 215) :: (u 216) :: (u 217) :: (u 218) :: (u 219) :: (u 220) :: (u 221) :: (u 222) :: (u 223) :: (u 224) :: (u 225) :: (u 226) :: (u 227) :: (u 228) :: (u 229) :: (u 230) :: (u 231) :: (u 232) :: (u 233) :: (u 234) :: (u 235) :: (u 236) :: (u 237) :: (u 238) :: (u 239) :: (u 240) :: (u 241) :: (u 242) :: (u 243) :: (u 244) :: (u 245) :: (u 246) :: (u 247) :: (u 248) :: (u 249) :: [] : List Value).toArray, defers := [] }
def fr3h (rg tb : Nat) (g : Bool) (u : Nat → Value) : Act :=
  { tmps := ((u 0) :: (u 1) :: (u 2) :: (.pointer (some ⟨rg, 0, none⟩)) :: (u 4) :: (u 5) :: (.pointer (some ⟨tb, 0, none⟩)) :: (u 7) :: (u 8) :: (u 9) :: (u 10) :: (u 11) :: (u 12) :: (u 13) :: (u 14) :: (u 15) :: (u 16) :: (u 17) :: (u 18) :: (u 19) :: (u 20) :: (u 21) :: (u 22) :: (u 23) :: (u 24) :: (u 25) :: (u 26) :: (u 27) :: (u 28) :: (u 29) :: (u 30) :: (u 31) :: (u 32) :: (u 33) :: (u 34) :: (u 35) :: (u 36) :: (u 37) :: (u 38) :: (u 39) :: (u 40) :: (u 41) :: (u 42) :: (u 43) :: (u 44) :: (u 45) :: (u 46) :: (u 47) :: (u 48) :: (u 49) :: (u 50) :: (u 51) :: (u 52) :: (u 53) :: (u 54) :: (u 55) :: (u 56) :: (u 57) :: (u 58) :: (u 59) :: (u 60) :: (u 61) :: (u 62) :: (u 63) :: (u 64) :: (u 65) :: (u 66) :: (u 67) :: (u 68) :: (u 69) :: (u 70) :: (u 71) :: (u 72) :: (u 73) :: (u 74) :: (u 75) :: (u 76) :: (u 77) :: (u 78) :: (u 79) :: (u 80) :: (u 81) :: (u 82) :: (u 83) :: (u 84) :: (u 85) :: (u 86) :: (u 87) :: (u 88) :: (u 89) :: (u 90) :: (u 91) :: (u 92) :: (u 93) :: (u 94) :: (u 95) :: (u 96) :: (u 97) :: (u 98) :: (u 99) :: (u 100) :: (u 101) :: (u 102) :: (u 103) :: (u 104) :: (u 105) :: (u 106) :: (u 107) :: (u 108) :: (u 109) :: (u 110) :: (u 111) :: (u 112) :: (u 113) :: (u 114) :: (u 115) :: (u 116) :: (u 117) :: (u 118) :: (u 119) :: (u 120) :: (u 121) :: (u 122) :: (u 123) :: (u 124) :: (u 125) :: (u 126) :: (u 127) :: (u 128) :: (.bool g) :: (u 130) :: (u 131) :: (u 132) :: (u 133) :: (u 134) :: (u 135) :: (u 136) :: (u 137) :: (u 138) :: (u 139) :: (u 140) :: (u 141) :: (u 142) :: (u 143) :: (u 144) :: (u 145) :: (u 146) :: (u 147) :: (u 148) :: (u 149) :: (u 150) :: (u 151) :: (u 152) :: (u 153) :: (u 154) :: (u 155) :: (u 156) :: (u 157) :: (u 158) :: (u 159) :: (u 160) :: (u 161) :: (u 162) :: (u 163) :: (u 164) :: (u 165) :: (u 166) :: (u 167) :: (u 168) :: (u 169) :: (u 170) :: (u 171) :: (u 172) :: (u 173) :: (u 174) :: (u 175) :: (u 176) :: (u 177) :: (u 178) :: (u 179) :: (u 180) :: (u 181) :: (u 182) :: (u 183) :: (u 184) :: (u 185) :: (u 186) :: (u 187) :: (u 188) :: (u 189) :: (u 190) :: (u 191) :: (u 192) :: (u 193) :: (u 194) :: (u 195) :: (u 196) :: (u 197) :: (u 198) :: (u 199) :: (u 200) :: (u 201) :: (u 202) :: (u 203) :: (u 204) :: (u 205) :: (u 206) :: (u 207) :: (u 208) :: (u 209) :: (u 210) :: (u 211) :: (u 212) :: (u 213) :: (u 214) :: (u 215) :: (u 216) :: (u 217) :: (u 218) :: (u 219) :: (u 220) :: (u 221) :: (u 222) :: (u 223) :: (u 224) :: (u 225) :: (u 226) :: (u 227) :: (u 228) :: (u 229) :: (u 230) :: (u 231) :: (u 232) :: (u 233) :: (u 234) :: (u 235) :: (u 236) :: (u 237) :: (u 238) :: (u 239) :: (u 240) :: (u 241) :: (u 242) :: (u 243) :: (u 244) :: (u 245) :: (u 246) :: (u 247) :: (u 248) :: (u 249) :: [] : List Value).toArray, defers := [] }
def fr3i (rg tb : Nat) (u : Nat → Value) : Act :=
  { tmps := ((u 0) :: (u 1) :: (u 2) :: (.pointer (some ⟨rg, 0, none⟩)) :: (u 4) :: (u 5) :: (.pointer (some ⟨tb, 0, none⟩)) :: (u 7) :: (u 8) :: (u 9) :: (u 10) :: (u 11) :: (u 12) :: (u 13) :: (u 14) :: (u 15) :: (u 16) :: (u 17) :: (u 18) :: (u 19) :: (u 20) :: (u 21) :: (u 22) :: (u 23) :: (u 24) :: (u 25) :: (u 26) :: (u 27) :: (u 28) :: (u 29) :: (u 30) :: (u 31) :: (u 32) :: (u 33) :: (u 34) :: (u 35) :: (u 36) :: (u 37) :: (u 38) :: (u 39) :: (u 40) :: (u 41) :: (u 42) :: (u 43) :: (u 44) :: (u 45) :: (u 46) :: (u 47) :: (u 48) :: (u 49) :: (u 50) :: (u 51) :: (u 52) :: (u 53) :: (u 54) :: (u 55) :: (u 56) :: (u 57) :: (u 58) :: (u 59) :: (u 60) :: (u 61) :: (u 62) :: (u 63) :: (u 64) :: (u 65) :: (u 66) :: (u 67) :: (u 68) :: (u 69) :: (u 70) :: (u 71) :: (u 72) :: (u 73) :: (u 74) :: (u 75) :: (u 76) :: (u 77) :: (u 78) :: (u 79) :: (u 80) :: (u 81) :: (u 82) :: (u 83) :: (u 84) :: (u 85) :: (u 86) :: (u 87) :: (u 88) :: (u 89) :: (u 90) :: (u 91) :: (u 92) :: (u 93) :: (u 94) :: (u 95) :: (u 96) :: (u 97) :: (u 98) :: (u 99) :: (u 100) :: (u 101) :: (u 102) :: (u 103) :: (u 104) :: (u 105) :: (u 106) :: (u 107) :: (u 108) :: (u 109) :: (u 110) :: (u 111) :: (u 112) :: (u 113) :: (u 114) :: (u 115) :: (u 116) :: (u 117) :: (u 118) :: (u 119) :: (u 120) :: (u 121) :: (u 122) :: (u 123) :: (u 124) :: (u 125) :: (u 126) :: (u 127) :: (u 128) :: (.bool true) :: (u 130) :: (u 131) :: (u 132) :: (u 133) :: (u 134) :: (u 135) :: (u 136) :: (.bool false) :: (u 138) :: (u 139) :: (u 140) :: (u 141) :: (u 142) :: (u 143) :: (u 144) :: (u 145) :: (u 146) :: (u 147) :: (u 148) :: (u 149) :: (u 150) :: (u 151) :: (u 152) :: (u 153) :: (u 154) :: (u 155) :: (u 156) :: (u 157) :: (u 158) :: (u 159) :: (u 160) :: (u 161) :: (u 162) :: (u 163) :: (u 164) :: (u 165) :: (u 166) :: (u 167) :: (u 168) :: (u 169) :: (u 170) :: (u 171) :: (u 172) :: (u 173) :: (u 174) :: (u 175) :: (u 176) :: (u 177) :: (u 178) :: (u 179) :: (u 180) :: (u 181) :: (u 182) :: (u 183) :: (u 184) :: (u 185) :: (u 186) :: (u 187) :: (u 188) :: (u 189) :: (u 190) :: (u 191) :: (u 192) :: (u 193) :: (u 194) :: (u 195) :: (u 196) :: (u 197) :: (u 198) :: (u 199) :: (u 200) :: (u 201) :: (u 202) :: (u 203) :: (u 204) :: (u 205) :: (u 206) :: (u 207) :: (u 208) :: (u 209) :: (u 210) :: (u 211) :: (u 212) :: (u 213) :: (u 214) :: (u 215) :: (u 216) :: (u 217) :: (u 218) :: (u 219) :: (u 220) :: (u 221) :: (u 222) :: (u 223) :: (u 224) :: (u 225) :: (u 226) :: (u 227) :: (u 228) :: (u 229) :: (u 230) :: (u 231) :: (u 232) :: (u 233) :: (u 234) :: (u 235) :: (u 236) :: (u 237) :: (u 238) :: (u 239) :: (u 240) :: (u 241) :: (u 242) :: (u 243) :: (u 244) :: (u 245) :: (u 246) :: (u 247) :: (u 248) :: (u 249) :: [] : List Value).toArray, defers := [] }
def fr3j (rg tb : Nat) (u : Nat → Value) : Act :=
  { tmps := ((u 0) :: (u 1) :: (u 2) :: (.pointer (some ⟨rg, 0, none⟩)) :: (u 4) :: (u 5) :: (.pointer (some ⟨tb, 0, none⟩)) :: (u 7) :: (u 8) :: (u 9) :: (u 10) :: (u 11) :: (u 12) :: (u 13) :: (u 14) :: (u 15) :: (u 16) :: (u 17) :: (u 18) :: (u 19) :: (u 20) :: (u 21) :: (u 22) :: (u 23) :: (u 24) :: (u 25) :: (u 26) :: (u 27) :: (u 28) :: (u 29) :: (u 30) :: (u 31) :: (u 32) :: (u 33) :: (u 34) :: (u 35) :: (u 36) :: (u 37) :: (u 38) :: (u 39) :: (u 40) :: (u 41) :: (u 42) :: (u 43) :: (u 44) :: (u 45) :: (u 46) :: (u 47) :: (u 48) :: (u 49) :: (u 50) :: (u 51) :: (u 52) :: (u 53) :: (u 54) :: (u 55) :: (u 56) :: (u 57) :: (u 58) :: (u 59) :: (u 60) :: (u 61) :: (u 62) :: (u 63) :: (u 64) :: (u 65) :: (u 66) :: (u 67) :: (u 68) :: (u 69) :: (u 70) :: (u 71) :: (u 72) :: (u 73) :: (u 74) :: (u 75) :: (u 76) :: (u 77) :: (u 78) :: (u 79) :: (u 80) :: (u 81) :: (u 82) :: (u 83) :: (u 84) :: (u 85) :: (u 86) :: (u 87) :: (u 88) :: (u 89) :: (u 90) :: (u 91) :: (u 92) :: (u 93) :: (u 94) :: (u 95) :: (u 96) :: (u 97) :: (u 98) :: (u 99) :: (u 100) :: (u 101) :: (u 102) :: (u 103) :: (u 104) :: (u 105) :: (u 106) :: (u 107) :: (u 108) :: (u 109) :: (u 110) :: (u 111) :: (u 112) :: (u 113) :: (u 114) :: (u 115) :: (u 116) :: (u 117) :: (u 118) :: (u 119) :: (u 120) :: (u 121) :: (u 122) :: (u 123) :: (u 124) :: (u 125) :: (u 126) :: (u 127) :: (u 128) :: (.bool false) :: (u 130) :: (u 131) :: (u 132) :: (u 133) :: (u 134) :: (u 135) :: (u 136) :: undef :: (u 138) :: (u 139) :: (u 140) :: (u 141) :: (u 142) :: (u 143) :: (u 144) :: (u 145) :: (u 146) :: (u 147) :: (u 148) :: (u 149) :: (u 150) :: (u 151) :: (u 152) :: (u 153) :: (u 154) :: (u 155) :: (u 156) :: (u 157) :: (u 158) :: (u 159) :: (u 160) :: (u 161) :: (u 162) :: (u 163) :: (u 164) :: (u 165) :: (u 166) :: (u 167) :: (u 168) :: (u 169) :: (u 170) :: (u 171) :: (u 172) :: (u 173) :: (u 174) :: (u 175) :: (u 176) :: (u 177) :: (u 178) :: (u 179) :: (u 180) :: (u 181) :: (u 182) :: (u 183) :: (u 184) :: (u 185) :: (u 186) :: (u 187) :: (u 188) :: (u 189) :: (u 190) :: (u 191) :: (u 192) :: (u 193) :: (u 194) :: (u 195) :: (u 196) :: (u 197) :: (u 198) :: (u 199) :: (u 200) :: (u 201) :: (u 202) :: (u 203) :: (u 204) :: (u 205) :: (u 206) :: (u 207) :: (u 208) :: (u 209) :: (u 210) :: (u 211) :: (u 212) :: (u 213) :: (u 214) :: (u 215) :: (u 216) :: (u 217) :: (u 218) :: (u 219) :: (u 220) :: (u 221) :: (u 222) :: (u 223) :: (u 224) :: (u 225) :: (u 226) :: (u 227) :: (u 228) :: (u 229) :: (u 230) :: (u 231) :: (u 232) :: (u 233) :: (u 234) :: (u 235) :: (u 236) :: (u 237) :: (u 238) :: (u 239) :: (u 240) :: (u 241) :: (u 242) :: (u 243) :: (u 244) :: (u 245) :: (u 246) :: (u 247) :: (u 248) :: (u 249) :: [] : List Value).toArray, defers := [] }
def fr3k (rg : Nat) (u : Nat → Value) : Act :=
  { tmps := ((u 0) :: (u 1) :: (u 2) :: (.pointer (some ⟨rg, 0, none⟩)) :: (u 4) :: (u 5) :: (u 6) :: (u 7) :: (u 8) :: (u 9) :: (u 10) :: (u 11) :: (u 12) :: (u 13) :: (u 14) :: (u 15) :: (u 16) :: (u 17) :: (u 18) :: (u 19) :: (u 20) :: (u 21) :: (u 22) :: (u 23) :: (u 24) :: (u 25) :: (u 26) :: (u 27) :: (u 28) :: (u 29) :: (u 30) :: (u 31) :: (u 32) :: (u 33) :: (u 34) :: (u 35) :: (u 36) :: (u 37) :: (u 38) :: (u 39) :: (u 40) :: (u 41) :: (u 42) :: (u 43) :: (u 44) :: (u 45) :: (u 46) :: (u 47) :: (u 48) :: (u 49) :: (u 50) :: (u 51) :: (u 52) :: (u 53) :: (u 54) :: (u 55) :: (u 56) :: (u 57) :: (u 58) :: (u 59) :: (u 60) :: (u 61) :: (u 62) :: (u 63) :: (u 64) :: (u 65) :: (u 66) :: (u 67) :: (u 68) :: (u 69) :: (u 70) :: (u 71) :: (u 72) :: (u 73) :: (u 74) :: (u 75) :: (u 76) :: (u 77) :: (u 78) :: (u 79) :: (u 80) :: (u 81) :: (u 82) :: (u 83) :: (u 84) :: (u 85) :: (u 86) :: (u 87) :: (u 88) :: (u 89) :: (u 90) :: (u 91) :: (u 92) :: (u 93) :: (u 94) :: (u 95) :: (u 96) :: (u 97) :: (u 98) :: (u 99) :: (u 100) :: (u 101) :: (u 102) :: (u 103) :: (u 104) :: (u 105) :: (u 106) :: (u 107) :: (u 108) :: (u 109) :: (u 110) :: (u 111) :: (u 112) :: (u 113) :: (u 114) :: (u 115) :: (u 116) :: (u 117) :: (u 118) :: (u 119) :: (u 120) :: (u 121) :: (u 122) :: (u 123) :: (u 124) :: (u 125) :: (u 126) :: (u 127) :: (u 128) :: (u 129) :: (u 130) :: (u 131) :: (u 132) :: (u 133) :: (u 134) :: (u 135) :: (u 136) :: (u 137) :: (u 138) :: (u 139) :: (u 140) :: (u 141) :: (u 142) :: (u 143) :: (u 144) :: (u 145) :: (.bool false) :: (u 147) :: (u 148) :: (u 149) :: (u 150) :: (u 151) :: (u 152) :: (u 153) :: (u 154) :: (u 155) :: (u 156) :: (u 157) :: (u 158) :: (u 159) :: (u 160) :: (u 161) :: (u 162) :: (u 163) :: (u 164) :: (u 165) :: (u 166) :: (u 167) :: (u 168) :: (u 169) :: (u 170) :: (u 171) :: (u 172) :: (u 173) :: (u 174) :: (u 175) :: (u 176) :: (u 177) :: (u 178) :: (u 179) :: (u 180) :: (u 181) :: (u 182) :: (u 183) :: (u 184) :: (u 185) :: (u 186) :: (u 187) :: (u 188) :: (u 189) :: (u 190) :: (u 191) :: (u 192) :: (u 193) :: (u 194) :: (u 195) :: (u 196) :: (u 197) :: (u 198) :: (u 199) :: (u 200) :: (u 201) :: (u 202) :: (u 203) :: (u 204) :: (u 205) :: (u 206) :: (u 207) :: (u 208) :: (u 209) :: (u 210) :: (u 211) :: (u 212) :: (u 213) :: (u 214) :: (u 215) :: (u 216) :: (u 217) :: (u 218) :: (u 219) :: (u 220) :: (u 221) :: (u 222) :: (u 223) :: (u 224) :: (u 225) :: (u 226) :: (u 227) :: (u 228) :: (u 229) :: (u 230) :: (u 231) :: (u 232) :: (u 233) :: (u 234) :: (u 235) :: (u 236) :: (u 237) :: (u 238) :: (u 239) :: (u 240) :: (u 241) :: (u 242) :: (u 243) :: (u 244) :: (u 245) :: (u 246) :: (u 247) :: (u 248) :: (u 249) :: [] : List Value).toArray, defers := [] }
set_option linter.unusedVariables false in
set_option linter.unusedSimpArgs false in
set_option maxRecDepth 100000 in
set_option maxHeartbeats 16000000 in
theorem reg15_0 (rg mb pb ub : Nat) (hv tv : Bool) (ga pa : Option Addr) (gn gc pc : Nat) (WZ : World)
    (HF : Hid (∀ ω, Below WZ.heap.size WZ ω → ω.cell? ⟨rg, 20, none⟩ = some (.pointer (some ⟨pb, 0, none⟩)) ∧ ω.cell? ⟨mb, 19, none⟩ = some (.bool hv) ∧ ω.cell? ⟨mb, 20, none⟩ = some (.bool tv) ∧ ω.cell? ⟨rg, 2, none⟩ = some (.pointer (some ⟨ub, 0, none⟩)) ∧ ω.cell? ⟨mb, 21, none⟩ = some (.slice ga gn gc)))
    (C13 : Hid (∀ ω, Below WZ.heap.size WZ ω → Calls Try.prog 13 #[.pointer (some ⟨ub, 0, none⟩)] ω fun e w' => e = .returned (.slice pa gn pc) ∧ Below WZ.heap.size WZ w'))
    (ops : Array Oper) (hops : (Try.f3.body.bind (findR 15)).getD .skip = .region 15 ops true) (Q : Act → World → Prop)
    (HKR : Hid (∀ (act : Act) (w' : World), act = fr3g1 rg mb (fun i => act.tmps.getD i undef) → Below WZ.heap.size WZ w' → wpA0 Q Try.prog ops 23 (setAll (setAll (Array.replicate ops.size false) [0, 1, 2, 3, 6, 7, 8, 9, 10]) [4, 5, 11, 12]) act w'))
    (u : Nat → Value) (v0 : World) (HJ0 : Hid (Below WZ.heap.size WZ v0)) : wpA0 Q Try.prog ops 36 (Array.replicate ops.size false) (fr3v rg mb u) v0 := by
  conv at hops => lhs; whnf
  injection hops with _ ho _
  subst ho
  unfold fr3v
  refine wpA0_fl [0, 1, 2, 3, 6, 7, 8, 9, 10] [4, 5, 11, 12] [0, 1, 2, 6, 7, 8, 10] 23 (fun ω => Below WZ.heap.size WZ ω) rfl (by kernel_rfl) (by kernel_rfl) (by kernel_rfl) (by kernel_rfl) (by kernel_rfl) HJ0.out ?_
  refine wpFl_yes _ _ _ _ rfl (by kernel_rfl) (fun ω hj => by first | (go_simp; rfl) | (obtain ⟨f1, f2, f3, f4, f5⟩ := HF.out ω (hj rfl); go_simp; rfl)) ?_
  simp only [List.getElem_toArray, List.getElem_cons_succ, List.getElem_cons_zero, Act.put, List.setIfInBounds_toArray, List.set_cons_succ, List.set_cons_zero]
  refine wpFl_yes _ _ _ _ rfl (by kernel_rfl) (fun ω hj => by first | (go_simp; rfl) | (obtain ⟨f1, f2, f3, f4, f5⟩ := HF.out ω (hj rfl); go_simp; rfl)) ?_
  simp only [List.getElem_toArray, List.getElem_cons_succ, List.getElem_cons_zero, Act.put, List.setIfInBounds_toArray, List.set_cons_succ, List.set_cons_zero]
  refine wpFl_yes _ _ _ _ rfl (by kernel_rfl) (fun ω hj => by first | (go_simp; rfl) | (obtain ⟨f1, f2, f3, f4, f5⟩ := HF.out ω (hj rfl); go_simp; rfl)) ?_
  simp only [List.getElem_toArray, List.getElem_cons_succ, List.getElem_cons_zero, Act.put, List.setIfInBounds_toArray, List.set_cons_succ, List.set_cons_zero]
  refine wpFl_yes _ _ _ _ rfl (by kernel_rfl) (fun ω hj => by first | (go_simp; rfl) | (obtain ⟨f1, f2, f3, f4, f5⟩ := HF.out ω (hj rfl); go_simp; rfl)) ?_
  simp only [List.getElem_toArray, List.getElem_cons_succ, List.getElem_cons_zero, Act.put, List.setIfInBounds_toArray, List.set_cons_succ, List.set_cons_zero]
  refine wpFl_yes _ _ _ _ rfl (by kernel_rfl) (fun ω hj => by first | (go_simp; rfl) | (obtain ⟨f1, f2, f3, f4, f5⟩ := HF.out ω (hj rfl); go_simp; rfl)) ?_
  simp only [List.getElem_toArray, List.getElem_cons_succ, List.getElem_cons_zero, Act.put, List.setIfInBounds_toArray, List.set_cons_succ, List.set_cons_zero]
  refine wpFl_yes _ _ _ _ rfl (by kernel_rfl) (fun ω hj => by first | (go_simp; rfl) | (obtain ⟨f1, f2, f3, f4, f5⟩ := HF.out ω (hj rfl); go_simp; rfl)) ?_
  simp only [List.getElem_toArray, List.getElem_cons_succ, List.getElem_cons_zero, Act.put, List.setIfInBounds_toArray, List.set_cons_succ, List.set_cons_zero]
  refine wpFl_yes _ _ _ _ rfl (by kernel_rfl) (fun ω hj => by first | (go_simp; rfl) | (obtain ⟨f1, f2, f3, f4, f5⟩ := HF.out ω (hj rfl); go_simp; rfl)) ?_
  simp only [List.getElem_toArray, List.getElem_cons_succ, List.getElem_cons_zero, Act.put, List.setIfInBounds_toArray, List.set_cons_succ, List.set_cons_zero]
  refine wpFl_yes _ _ _ _ rfl (by kernel_rfl) (fun ω hj => by first | (go_simp; rfl) | (obtain ⟨f1, f2, f3, f4, f5⟩ := HF.out ω (hj rfl); go_simp; rfl)) ?_
  simp only [List.getElem_toArray, List.getElem_cons_succ, List.getElem_cons_zero, Act.put, List.setIfInBounds_toArray, List.set_cons_succ, List.set_cons_zero]
  refine wpFl_yes _ _ _ _ rfl (by kernel_rfl) (fun ω hj => by first | (go_simp; rfl) | (obtain ⟨f1, f2, f3, f4, f5⟩ := HF.out ω (hj rfl); go_simp; rfl)) ?_
  simp only [List.getElem_toArray, List.getElem_cons_succ, List.getElem_cons_zero, Act.put, List.setIfInBounds_toArray, List.set_cons_succ, List.set_cons_zero]
  refine wpFl_nil _ _ ?_
  refine wpCh_one _ _ _ _ rfl ?_
  simp only [List.getElem_toArray, List.getElem_cons_succ, List.getElem_cons_zero, Act.put, List.setIfInBounds_toArray, List.set_cons_succ, List.set_cons_zero]
  go_wp2_with fail
  refine (C13.out _ HJ0.out).mono ?_
  rintro e v1 ⟨rfl, hj⟩
  have HJ1 := hid_of hj
  clear hj
  go_wp2_with fail
  refine ⟨HJ1.out, ?_⟩
  refine wpCh_one _ _ _ _ rfl ?_
  simp only [List.getElem_toArray, List.getElem_cons_succ, List.getElem_cons_zero, Act.put, List.setIfInBounds_toArray, List.set_cons_succ, List.set_cons_zero]
  go_wp2_with fail
  refine ⟨HJ1.out, ?_⟩
  refine wpCh_rest _ _ _ _ [_, _] _ _ rfl (by kernel_rfl) ?_
  simp only [List.getElem_toArray, List.getElem_cons_succ, List.getElem_cons_zero, Act.put, List.setIfInBounds_toArray, List.set_cons_succ, List.set_cons_zero]
  go_wp2_with fail
  exact HKR.out _ _ (by kernel_rfl) HJ1.out
set_option linter.unusedVariables false in
set_option linter.unusedSimpArgs false in
set_option maxRecDepth 100000 in
set_option maxHeartbeats 16000000 in
theorem reg15_1 (rg mb pb ub : Nat) (hv tv : Bool) (ga pa : Option Addr) (gn gc pc : Nat) (WZ : World)
    (HF : Hid (∀ ω, Below WZ.heap.size WZ ω → ω.cell? ⟨rg, 20, none⟩ = some (.pointer (some ⟨pb, 0, none⟩)) ∧ ω.cell? ⟨mb, 19, none⟩ = some (.bool hv) ∧ ω.cell? ⟨mb, 20, none⟩ = some (.bool tv) ∧ ω.cell? ⟨rg, 2, none⟩ = some (.pointer (some ⟨ub, 0, none⟩)) ∧ ω.cell? ⟨mb, 21, none⟩ = some (.slice ga gn gc)))
    (C20 : Hid (∀ ω, Below WZ.heap.size WZ ω → Calls Try.prog 20 #[.pointer (some ⟨pb, 0, none⟩)] ω fun e w' => e = .returned (.bool hv) ∧ Below WZ.heap.size WZ w'))
    (ops : Array Oper) (hops : (Try.f3.body.bind (findR 15)).getD .skip = .region 15 ops true) (Q : Act → World → Prop)
    (HKR : Hid (∀ (act : Act) (w' : World), act = fr3g2 rg mb (fun i => act.tmps.getD i undef) → Below WZ.heap.size WZ w' → wpA0 Q Try.prog ops 11 (setAll (setAll (setAll (setAll (Array.replicate ops.size false) [0, 1, 2, 3, 6, 7, 8, 9, 10]) [4, 5, 11, 12]) [13, 14, 15, 16, 18, 19, 20, 21]) [17, 22, 23, 24]) act w'))
    (u : Nat → Value) (v1 : World) (HJ1 : Hid (Below WZ.heap.size WZ v1)) : wpA0 Q Try.prog ops 23 (setAll (setAll (Array.replicate ops.size false) [0, 1, 2, 3, 6, 7, 8, 9, 10]) [4, 5, 11, 12]) (fr3g1 rg mb u) v1 := by
  conv at hops => lhs; whnf
  injection hops with _ ho _
  subst ho
  unfold fr3g1
  refine wpA0_fl [13, 14, 15, 16, 18, 19, 20, 21] [17, 22, 23, 24] [13, 14, 15, 18, 19, 20] 11 (fun ω => Below WZ.heap.size WZ ω) rfl (by kernel_rfl) (by kernel_rfl) (by kernel_rfl) (by kernel_rfl) (by kernel_rfl) HJ1.out ?_
  refine wpFl_yes _ _ _ _ rfl (by kernel_rfl) (fun ω hj => by first | (go_simp; rfl) | (obtain ⟨f1, f2, f3, f4, f5⟩ := HF.out ω (hj rfl); go_simp; rfl)) ?_
  simp only [List.getElem_toArray, List.getElem_cons_succ, List.getElem_cons_zero, Act.put, List.setIfInBounds_toArray, List.set_cons_succ, List.set_cons_zero]
  refine wpFl_yes _ _ _ _ rfl (by kernel_rfl) (fun ω hj => by first | (go_simp; rfl) | (obtain ⟨f1, f2, f3, f4, f5⟩ := HF.out ω (hj rfl); go_simp; rfl)) ?_
  simp only [List.getElem_toArray, List.getElem_cons_succ, List.getElem_cons_zero, Act.put, List.setIfInBounds_toArray, List.set_cons_succ, List.set_cons_zero]
  refine wpFl_yes _ _ _ _ rfl (by kernel_rfl) (fun ω hj => by first | (go_simp; rfl) | (obtain ⟨f1, f2, f3, f4, f5⟩ := HF.out ω (hj rfl); go_simp; rfl)) ?_
  simp only [List.getElem_toArray, List.getElem_cons_succ, List.getElem_cons_zero, Act.put, List.setIfInBounds_toArray, List.set_cons_succ, List.set_cons_zero]
  refine wpFl_yes _ _ _ _ rfl (by kernel_rfl) (fun ω hj => by first | (go_simp; rfl) | (obtain ⟨f1, f2, f3, f4, f5⟩ := HF.out ω (hj rfl); go_simp; rfl)) ?_
  simp only [List.getElem_toArray, List.getElem_cons_succ, List.getElem_cons_zero, Act.put, List.setIfInBounds_toArray, List.set_cons_succ, List.set_cons_zero]
  refine wpFl_yes _ _ _ _ rfl (by kernel_rfl) (fun ω hj => by first | (go_simp; rfl) | (obtain ⟨f1, f2, f3, f4, f5⟩ := HF.out ω (hj rfl); go_simp; rfl)) ?_
  simp only [List.getElem_toArray, List.getElem_cons_succ, List.getElem_cons_zero, Act.put, List.setIfInBounds_toArray, List.set_cons_succ, List.set_cons_zero]
  refine wpFl_yes _ _ _ _ rfl (by kernel_rfl) (fun ω hj => by first | (go_simp; rfl) | (obtain ⟨f1, f2, f3, f4, f5⟩ := HF.out ω (hj rfl); go_simp; rfl)) ?_
  simp only [List.getElem_toArray, List.getElem_cons_succ, List.getElem_cons_zero, Act.put, List.setIfInBounds_toArray, List.set_cons_succ, List.set_cons_zero]
  refine wpFl_yes _ _ _ _ rfl (by kernel_rfl) (fun ω hj => by first | (go_simp; rfl) | (obtain ⟨f1, f2, f3, f4, f5⟩ := HF.out ω (hj rfl); go_simp; rfl)) ?_
  simp only [List.getElem_toArray, List.getElem_cons_succ, List.getElem_cons_zero, Act.put, List.setIfInBounds_toArray, List.set_cons_succ, List.set_cons_zero]
  refine wpFl_yes _ _ _ _ rfl (by kernel_rfl) (fun ω hj => by first | (go_simp; rfl) | (obtain ⟨f1, f2, f3, f4, f5⟩ := HF.out ω (hj rfl); go_simp; rfl)) ?_
  simp only [List.getElem_toArray, List.getElem_cons_succ, List.getElem_cons_zero, Act.put, List.setIfInBounds_toArray, List.set_cons_succ, List.set_cons_zero]
  refine wpFl_nil _ _ ?_
  refine wpCh_one _ _ _ _ rfl ?_
  simp only [List.getElem_toArray, List.getElem_cons_succ, List.getElem_cons_zero, Act.put, List.setIfInBounds_toArray, List.set_cons_succ, List.set_cons_zero]
  go_wp2_with fail
  refine (C20.out _ HJ1.out).mono ?_
  rintro e v2 ⟨rfl, hj⟩
  have HJ2 := hid_of hj
  clear hj
  go_wp2_with fail
  refine ⟨HJ2.out, ?_⟩
  refine wpCh_rest _ _ _ _ [_, _, _] _ _ rfl (by kernel_rfl) ?_
  simp only [List.getElem_toArray, List.getElem_cons_succ, List.getElem_cons_zero, Act.put, List.setIfInBounds_toArray, List.set_cons_succ, List.set_cons_zero]
  go_wp2_with fail
  exact HKR.out _ _ (by kernel_rfl) HJ2.out
set_option linter.unusedVariables false in
set_option linter.unusedSimpArgs false in
set_option maxRecDepth 100000 in
set_option maxHeartbeats 16000000 in
theorem reg15_2 (rg mb pb ub : Nat) (hv tv : Bool) (ga pa : Option Addr) (gn gc pc : Nat) (WZ : World)
    (HF : Hid (∀ ω, Below WZ.heap.size WZ ω → ω.cell? ⟨rg, 20, none⟩ = some (.pointer (some ⟨pb, 0, none⟩)) ∧ ω.cell? ⟨mb, 19, none⟩ = some (.bool hv) ∧ ω.cell? ⟨mb, 20, none⟩ = some (.bool tv) ∧ ω.cell? ⟨rg, 2, none⟩ = some (.pointer (some ⟨ub, 0, none⟩)) ∧ ω.cell? ⟨mb, 21, none⟩ = some (.slice ga gn gc)))
    (C21 : Hid (∀ ω, Below WZ.heap.size WZ ω → Calls Try.prog 21 #[.pointer (some ⟨pb, 0, none⟩)] ω fun e w' => e = .returned (.bool tv) ∧ Below WZ.heap.size WZ w'))
    (ops : Array Oper) (hops : (Try.f3.body.bind (findR 15)).getD .skip = .region 15 ops true) (Q : Act → World → Prop)
    (HKR : Hid (∀ (act : Act) (w' : World), act = fr3e rg mb (fun i => act.tmps.getD i undef) → Below WZ.heap.size WZ w' → Q act w'))
    (u : Nat → Value) (v2 : World) (HJ2 : Hid (Below WZ.heap.size WZ v2)) : wpA0 Q Try.prog ops 11 (setAll (setAll (setAll (setAll (Array.replicate ops.size false) [0, 1, 2, 3, 6, 7, 8, 9, 10]) [4, 5, 11, 12]) [13, 14, 15, 16, 18, 19, 20, 21]) [17, 22, 23, 24]) (fr3g2 rg mb u) v2 := by
  conv at hops => lhs; whnf
  injection hops with _ ho _
  subst ho
  unfold fr3g2
  refine wpA0_fl [25, 26, 27, 28, 30, 31, 32, 33] [29, 34, 35] [25, 26, 27, 30, 31, 32] 0 (fun ω => Below WZ.heap.size WZ ω) rfl (by kernel_rfl) (by kernel_rfl) (by kernel_rfl) (by kernel_rfl) (by kernel_rfl) HJ2.out ?_
  refine wpFl_yes _ _ _ _ rfl (by kernel_rfl) (fun ω hj => by first | (go_simp; rfl) | (obtain ⟨f1, f2, f3, f4, f5⟩ := HF.out ω (hj rfl); go_simp; rfl)) ?_
  simp only [List.getElem_toArray, List.getElem_cons_succ, List.getElem_cons_zero, Act.put, List.setIfInBounds_toArray, List.set_cons_succ, List.set_cons_zero]
  refine wpFl_yes _ _ _ _ rfl (by kernel_rfl) (fun ω hj => by first | (go_simp; rfl) | (obtain ⟨f1, f2, f3, f4, f5⟩ := HF.out ω (hj rfl); go_simp; rfl)) ?_
  simp only [List.getElem_toArray, List.getElem_cons_succ, List.getElem_cons_zero, Act.put, List.setIfInBounds_toArray, List.set_cons_succ, List.set_cons_zero]
  refine wpFl_yes _ _ _ _ rfl (by kernel_rfl) (fun ω hj => by first | (go_simp; rfl) | (obtain ⟨f1, f2, f3, f4, f5⟩ := HF.out ω (hj rfl); go_simp; rfl)) ?_
  simp only [List.getElem_toArray, List.getElem_cons_succ, List.getElem_cons_zero, Act.put, List.setIfInBounds_toArray, List.set_cons_succ, List.set_cons_zero]
  refine wpFl_yes _ _ _ _ rfl (by kernel_rfl) (fun ω hj => by first | (go_simp; rfl) | (obtain ⟨f1, f2, f3, f4, f5⟩ := HF.out ω (hj rfl); go_simp; rfl)) ?_
  simp only [List.getElem_toArray, List.getElem_cons_succ, List.getElem_cons_zero, Act.put, List.setIfInBounds_toArray, List.set_cons_succ, List.set_cons_zero]
  refine wpFl_yes _ _ _ _ rfl (by kernel_rfl) (fun ω hj => by first | (go_simp; rfl) | (obtain ⟨f1, f2, f3, f4, f5⟩ := HF.out ω (hj rfl); go_simp; rfl)) ?_
  simp only [List.getElem_toArray, List.getElem_cons_succ, List.getElem_cons_zero, Act.put, List.setIfInBounds_toArray, List.set_cons_succ, List.set_cons_zero]
  refine wpFl_yes _ _ _ _ rfl (by kernel_rfl) (fun ω hj => by first | (go_simp; rfl) | (obtain ⟨f1, f2, f3, f4, f5⟩ := HF.out ω (hj rfl); go_simp; rfl)) ?_
  simp only [List.getElem_toArray, List.getElem_cons_succ, List.getElem_cons_zero, Act.put, List.setIfInBounds_toArray, List.set_cons_succ, List.set_cons_zero]
  refine wpFl_yes _ _ _ _ rfl (by kernel_rfl) (fun ω hj => by first | (go_simp; rfl) | (obtain ⟨f1, f2, f3, f4, f5⟩ := HF.out ω (hj rfl); go_simp; rfl)) ?_
  simp only [List.getElem_toArray, List.getElem_cons_succ, List.getElem_cons_zero, Act.put, List.setIfInBounds_toArray, List.set_cons_succ, List.set_cons_zero]
  refine wpFl_yes _ _ _ _ rfl (by kernel_rfl) (fun ω hj => by first | (go_simp; rfl) | (obtain ⟨f1, f2, f3, f4, f5⟩ := HF.out ω (hj rfl); go_simp; rfl)) ?_
  simp only [List.getElem_toArray, List.getElem_cons_succ, List.getElem_cons_zero, Act.put, List.setIfInBounds_toArray, List.set_cons_succ, List.set_cons_zero]
  refine wpFl_nil _ _ ?_
  refine wpCh_one _ _ _ _ rfl ?_
  simp only [List.getElem_toArray, List.getElem_cons_succ, List.getElem_cons_zero, Act.put, List.setIfInBounds_toArray, List.set_cons_succ, List.set_cons_zero]
  go_wp2_with fail
  refine (C21.out _ HJ2.out).mono ?_
  rintro e v3 ⟨rfl, hj⟩
  have HJ3 := hid_of hj
  clear hj
  go_wp2_with fail
  refine ⟨HJ3.out, ?_⟩
  refine wpCh_rest _ _ _ _ [_, _] _ _ rfl (by kernel_rfl) ?_
  simp only [List.getElem_toArray, List.getElem_cons_succ, List.getElem_cons_zero, Act.put, List.setIfInBounds_toArray, List.set_cons_succ, List.set_cons_zero]
  go_wp2_with fail
  refine wpA0_end (by kernel_rfl) ?_
  exact HKR.out _ _ (by kernel_rfl) HJ3.out
set_option linter.unusedVariables false in
set_option linter.unusedSimpArgs false in
set_option maxRecDepth 100000 in
set_option maxHeartbeats 16000000 in
theorem reg15 (rg mb pb ub : Nat) (hv tv : Bool) (ga pa : Option Addr) (gn gc pc : Nat) (WZ : World)
    (HF : Hid (∀ ω, Below WZ.heap.size WZ ω → ω.cell? ⟨rg, 20, none⟩ = some (.pointer (some ⟨pb, 0, none⟩)) ∧ ω.cell? ⟨mb, 19, none⟩ = some (.bool hv) ∧ ω.cell? ⟨mb, 20, none⟩ = some (.bool tv) ∧ ω.cell? ⟨rg, 2, none⟩ = some (.pointer (some ⟨ub, 0, none⟩)) ∧ ω.cell? ⟨mb, 21, none⟩ = some (.slice ga gn gc)))
    (C13 : Hid (∀ ω, Below WZ.heap.size WZ ω → Calls Try.prog 13 #[.pointer (some ⟨ub, 0, none⟩)] ω fun e w' => e = .returned (.slice pa gn pc) ∧ Below WZ.heap.size WZ w'))
    (C20 : Hid (∀ ω, Below WZ.heap.size WZ ω → Calls Try.prog 20 #[.pointer (some ⟨pb, 0, none⟩)] ω fun e w' => e = .returned (.bool hv) ∧ Below WZ.heap.size WZ w'))
    (C21 : Hid (∀ ω, Below WZ.heap.size WZ ω → Calls Try.prog 21 #[.pointer (some ⟨pb, 0, none⟩)] ω fun e w' => e = .returned (.bool tv) ∧ Below WZ.heap.size WZ w'))
    (KR : Act → World → Prop) (HKR : Hid (∀ (act : Act) (w' : World), act = fr3e rg mb (fun i => act.tmps.getD i undef) → Below WZ.heap.size WZ w' → KR act w')) (Q0 : Exit → Act → World → Prop)
    (code : Code) (hcode : code = (Try.f3.body.bind (findR 15)).getD .skip) (u : Nat → Value) : code.wp Try.prog (Exit.then KR Q0) (fr3v rg mb u) WZ := by
  obtain ⟨l, hl⟩ : ∃ l : List Oper, code = .region 15 l.toArray true := ⟨_, by rw [hcode]; rfl⟩
  have hops := hcode.symm.trans hl
  rw [hl]
  have hlen : 36 = l.length := by
    rw [hcode] at hl
    conv at hl => lhs; whnf
    injection hl with _ ho _
    exact (congrArg Array.size ho).trans (List.size_toArray ..)
  refine wp_region_stages mixed 36 hlen ?_
  refine reg15_0 rg mb pb ub hv tv ga pa gn gc pc WZ HF C13 l.toArray hops _ ?_ u _ ⟨rfl, rfl, rfl, Nat.le_refl _, fun _ _ => rfl⟩
  intro a1 v1 h1 k1
  rw [h1]
  refine reg15_1 rg mb pb ub hv tv ga pa gn gc pc WZ HF C20 l.toArray hops _ ?_ _ _ (hid_of k1)
  intro a2 v2 h2 k2
  rw [h2]
  refine reg15_2 rg mb pb ub hv tv ga pa gn gc pc WZ HF C21 l.toArray hops _ ?_ _ _ (hid_of k2)
  intro a3 v3 h3 k3
  exact HKR.out _ _ h3 k3
set_option linter.unusedVariables false in
set_option linter.unusedSimpArgs false in
set_option maxRecDepth 100000 in
set_option maxHeartbeats 16000000 in
theorem reg18_0yy (rg tb pb : Nat) (hc ho : Bool) (r : Nat → Int) (px : Int) (WZ : World)
    (HG : Hid (∀ ω, Below WZ.heap.size WZ ω → ω.cell? ⟨rg, 20, none⟩ = some (.pointer (some ⟨pb, 0, none⟩)) ∧ ω.cell? ⟨rg, 4, none⟩ = some (.bool false) ∧ ω.cell? ⟨rg, 5, none⟩ = some (.bool false)))
    (ops : Array Oper) (hops : (Try.f3.body.bind (findR 18)).getD .skip = .region 18 ops true) (Q : Act → World → Prop)
    (HKR : Hid (∀ (act : Act) (w' : World), act = fr3h rg tb true (fun i => act.tmps.getD i undef) → Below WZ.heap.size WZ w' → wpA0 Q Try.prog ops 17 (setAll (Array.replicate ops.size false) [0, 1, 2, 3, 4, 5, 6, 7, 8, 9, 10, 11, 12]) act w'))
    (u : Nat → Value) (v0 : World) (HJ0 : Hid (Below WZ.heap.size WZ v0)) : wpA0 Q Try.prog ops 30 (Array.replicate ops.size false) (fr3t rg tb u) v0 := by
  conv at hops => lhs; whnf
  injection hops with _ ho _
  subst ho
  unfold fr3t
  refine wpA0_ch [0, 1, 2, 3, 4, 5, 6, 7, 8, 9, 10, 11, 12] 17 rfl (by kernel_rfl) ?_
  refine wpCh_rest _ _ _ _ [_, _, _, _, _, _, _, _, _, _, _, _, _] _ _ rfl (by kernel_rfl) ?_
  simp only [List.getElem_toArray, List.getElem_cons_succ, List.getElem_cons_zero, Act.put, List.setIfInBounds_toArray, List.set_cons_succ, List.set_cons_zero]
  obtain ⟨f1, f2, f3⟩ := HG.out _ HJ0.out
  go_wp2_with fail
  exact HKR.out _ _ (by kernel_rfl) HJ0.out
set_option linter.unusedVariables false in
set_option linter.unusedSimpArgs false in
set_option maxRecDepth 100000 in
set_option maxHeartbeats 16000000 in
theorem reg18_0c (rg tb pb : Nat) (hc ho : Bool) (r : Nat → Int) (px : Int) (WZ : World)
    (HG : Hid (∀ ω, Below WZ.heap.size WZ ω → ω.cell? ⟨rg, 20, none⟩ = some (.pointer (some ⟨pb, 0, none⟩)) ∧ ω.cell? ⟨rg, 4, none⟩ = some (.bool true) ∧ ω.cell? ⟨rg, 5, none⟩ = some (.bool ho)))
    (ops : Array Oper) (hops : (Try.f3.body.bind (findR 18)).getD .skip = .region 18 ops true) (Q : Act → World → Prop)
    (HKR : Hid (∀ (act : Act) (w' : World), act = fr3h rg tb false (fun i => act.tmps.getD i undef) → Below WZ.heap.size WZ w' → wpA0 Q Try.prog ops 17 (setAll (Array.replicate ops.size false) [0, 1, 2, 3, 4, 5, 6, 7, 8, 9, 10, 11, 12]) act w'))
    (u : Nat → Value) (v0 : World) (HJ0 : Hid (Below WZ.heap.size WZ v0)) : wpA0 Q Try.prog ops 30 (Array.replicate ops.size false) (fr3t rg tb u) v0 := by
  conv at hops => lhs; whnf
  injection hops with _ ho _
  subst ho
  unfold fr3t
  refine wpA0_ch [0, 1, 2, 3, 4, 5, 6, 7, 8, 9, 10, 11, 12] 17 rfl (by kernel_rfl) ?_
  refine wpCh_rest _ _ _ _ [_, _, _, _, _, _, _, _, _, _, _, _, _] _ _ rfl (by kernel_rfl) ?_
  simp only [List.getElem_toArray, List.getElem_cons_succ, List.getElem_cons_zero, Act.put, List.setIfInBounds_toArray, List.set_cons_succ, List.set_cons_zero]
  obtain ⟨f1, f2, f3⟩ := HG.out _ HJ0.out
  go_wp2_with fail
  exact HKR.out _ _ (by kernel_rfl) HJ0.out
set_option linter.unusedVariables false in
set_option linter.unusedSimpArgs false in
set_option maxRecDepth 100000 in
set_option maxHeartbeats 16000000 in
theorem reg18_0o (rg tb pb : Nat) (hc ho : Bool) (r : Nat → Int) (px : Int) (WZ : World)
    (HG : Hid (∀ ω, Below WZ.heap.size WZ ω → ω.cell? ⟨rg, 20, none⟩ = some (.pointer (some ⟨pb, 0, none⟩)) ∧ ω.cell? ⟨rg, 4, none⟩ = some (.bool false) ∧ ω.cell? ⟨rg, 5, none⟩ = some (.bool true)))
    (ops : Array Oper) (hops : (Try.f3.body.bind (findR 18)).getD .skip = .region 18 ops true) (Q : Act → World → Prop)
    (HKR : Hid (∀ (act : Act) (w' : World), act = fr3h rg tb false (fun i => act.tmps.getD i undef) → Below WZ.heap.size WZ w' → wpA0 Q Try.prog ops 17 (setAll (Array.replicate ops.size false) [0, 1, 2, 3, 4, 5, 6, 7, 8, 9, 10, 11, 12]) act w'))
    (u : Nat → Value) (v0 : World) (HJ0 : Hid (Below WZ.heap.size WZ v0)) : wpA0 Q Try.prog ops 30 (Array.replicate ops.size false) (fr3t rg tb u) v0 := by
  conv at hops => lhs; whnf
  injection hops with _ ho _
  subst ho
  unfold fr3t
  refine wpA0_ch [0, 1, 2, 3, 4, 5, 6, 7, 8, 9, 10, 11, 12] 17 rfl (by kernel_rfl) ?_
  refine wpCh_rest _ _ _ _ [_, _, _, _, _, _, _, _, _, _, _, _, _] _ _ rfl (by kernel_rfl) ?_
  simp only [List.getElem_toArray, List.getElem_cons_succ, List.getElem_cons_zero, Act.put, List.setIfInBounds_toArray, List.set_cons_succ, List.set_cons_zero]
  obtain ⟨f1, f2, f3⟩ := HG.out _ HJ0.out
  go_wp2_with fail
  exact HKR.out _ _ (by kernel_rfl) HJ0.out
set_option linter.unusedVariables false in
set_option linter.unusedSimpArgs false in
set_option maxRecDepth 100000 in
set_option maxHeartbeats 16000000 in
theorem reg18_1 (rg tb pb : Nat) (hc ho : Bool) (r : Nat → Int) (px : Int) (WZ : World)
    (HG : Hid (∀ ω, Below WZ.heap.size WZ ω → ω.cell? ⟨rg, 20, none⟩ = some (.pointer (some ⟨pb, 0, none⟩)) ∧ ω.cell? ⟨rg, 4, none⟩ = some (.bool hc) ∧ ω.cell? ⟨rg, 5, none⟩ = some (.bool ho)))
    (HT7 : Hid (∀ ω, Below WZ.heap.size WZ ω → Blk ω tb #[.int .u32 (r 0), .int .u32 (r 1), .int .u32 (r 2), .int .u32 (r 3), .int .u32 (r 4), .int .u32 (r 5), .int .u32 (r 6), .int .u32 (r 7), .int .u32 (r 8), .int .u32 (r 9), .int .u32 (r 10), .int .u32 (r 11), .int .u32 (r 12), .int .u32 (r 13), .int .u32 (r 14), .int .u32 (r 15), .int .u32 px] 55))
    (C22a : Hid (∀ ω, Below WZ.heap.size WZ ω → Calls Try.prog 22 #[.pointer (some ⟨pb, 0, none⟩), .int .i64 0] ω fun e w' => e = .returned (.agg #[.int .u32 (r 0), .int .u32 (r 1), .int .u32 (r 2), .int .u32 (r 3), .int .u32 (r 4), .int .u32 (r 5), .int .u32 (r 6), .int .u32 (r 7), .int .u32 (r 8), .int .u32 (r 9), .int .u32 (r 10), .int .u32 (r 11), .int .u32 (r 12), .int .u32 (r 13), .int .u32 (r 14), .int .u32 (r 15), .int .u32 px]) ∧ Below WZ.heap.size WZ w'))
    (ops : Array Oper) (hops : (Try.f3.body.bind (findR 18)).getD .skip = .region 18 ops true) (Q : Act → World → Prop)
    (HKR : Hid (∀ (act : Act) (w' : World), act = fr3i rg tb (fun i => act.tmps.getD i undef) → Below WZ.heap.size WZ w' → wpA0 Q Try.prog ops 9 (setAll (setAll (setAll (Array.replicate ops.size false) [0, 1, 2, 3, 4, 5, 6, 7, 8, 9, 10, 11, 12]) [13, 14, 15, 16, 18]) [17, 19, 20]) act w'))
    (u : Nat → Value) (v1 : World) (HJ1 : Hid (Below WZ.heap.size WZ v1)) : wpA0 Q Try.prog ops 17 (setAll (Array.replicate ops.size false) [0, 1, 2, 3, 4, 5, 6, 7, 8, 9, 10, 11, 12]) (fr3h rg tb true u) v1 := by
  conv at hops => lhs; whnf
  injection hops with _ ho _
  subst ho
  have h55 := eq55 r px
  unfold fr3h
  refine wpA0_fl [13, 14, 15, 16, 18] [17, 19, 20] [13, 14, 15] 9 (fun ω => Below WZ.heap.size WZ ω) rfl (by kernel_rfl) (by kernel_rfl) (by kernel_rfl) (by kernel_rfl) (by kernel_rfl) HJ1.out ?_
  refine wpFl_yes _ _ _ _ rfl (by kernel_rfl) (fun ω hj => by first | (go_simp; rfl) | (obtain ⟨f1, f2, f3⟩ := HG.out ω (hj rfl); go_simp; rfl)) ?_
  simp only [List.getElem_toArray, List.getElem_cons_succ, List.getElem_cons_zero, Act.put, List.setIfInBounds_toArray, List.set_cons_succ, List.set_cons_zero]
  refine wpFl_yes _ _ _ _ rfl (by kernel_rfl) (fun ω hj => by first | (go_simp; rfl) | (obtain ⟨f1, f2, f3⟩ := HG.out ω (hj rfl); go_simp; rfl)) ?_
  simp only [List.getElem_toArray, List.getElem_cons_succ, List.getElem_cons_zero, Act.put, List.setIfInBounds_toArray, List.set_cons_succ, List.set_cons_zero]
  refine wpFl_yes _ _ _ _ rfl (by kernel_rfl) (fun ω hj => by first | (go_simp; rfl) | (obtain ⟨f1, f2, f3⟩ := HG.out ω (hj rfl); go_simp; rfl)) ?_
  simp only [List.getElem_toArray, List.getElem_cons_succ, List.getElem_cons_zero, Act.put, List.setIfInBounds_toArray, List.set_cons_succ, List.set_cons_zero]
  refine wpFl_yes _ _ _ _ rfl (by kernel_rfl) (fun ω hj => by first | (go_simp; rfl) | (obtain ⟨f1, f2, f3⟩ := HG.out ω (hj rfl); go_simp; rfl)) ?_
  simp only [List.getElem_toArray, List.getElem_cons_succ, List.getElem_cons_zero, Act.put, List.setIfInBounds_toArray, List.set_cons_succ, List.set_cons_zero]
  refine wpFl_yes _ _ _ _ rfl (by kernel_rfl) (fun ω hj => by
    have m0 : ω.cell? ⟨tb, 0, none⟩ = some (.int .u32 (r 0)) := (HT7.out ω (hj rfl)).cell 0
    have m1 : ω.cell? ⟨tb, 1, none⟩ = some (.int .u32 (r 1)) := (HT7.out ω (hj rfl)).cell 1
    have m2 : ω.cell? ⟨tb, 2, none⟩ = some (.int .u32 (r 2)) := (HT7.out ω (hj rfl)).cell 2
    have m3 : ω.cell? ⟨tb, 3, none⟩ = some (.int .u32 (r 3)) := (HT7.out ω (hj rfl)).cell 3
    have m4 : ω.cell? ⟨tb, 4, none⟩ = some (.int .u32 (r 4)) := (HT7.out ω (hj rfl)).cell 4
    have m5 : ω.cell? ⟨tb, 5, none⟩ = some (.int .u32 (r 5)) := (HT7.out ω (hj rfl)).cell 5
    have m6 : ω.cell? ⟨tb, 6, none⟩ = some (.int .u32 (r 6)) := (HT7.out ω (hj rfl)).cell 6
    have m7 : ω.cell? ⟨tb, 7, none⟩ = some (.int .u32 (r 7)) := (HT7.out ω (hj rfl)).cell 7
    have m8 : ω.cell? ⟨tb, 8, none⟩ = some (.int .u32 (r 8)) := (HT7.out ω (hj rfl)).cell 8
    have m9 : ω.cell? ⟨tb, 9, none⟩ = some (.int .u32 (r 9)) := (HT7.out ω (hj rfl)).cell 9
    have m10 : ω.cell? ⟨tb, 10, none⟩ = some (.int .u32 (r 10)) := (HT7.out ω (hj rfl)).cell 10
    have m11 : ω.cell? ⟨tb, 11, none⟩ = some (.int .u32 (r 11)) := (HT7.out ω (hj rfl)).cell 11
    have m12 : ω.cell? ⟨tb, 12, none⟩ = some (.int .u32 (r 12)) := (HT7.out ω (hj rfl)).cell 12
    have m13 : ω.cell? ⟨tb, 13, none⟩ = some (.int .u32 (r 13)) := (HT7.out ω (hj rfl)).cell 13
    have m14 : ω.cell? ⟨tb, 14, none⟩ = some (.int .u32 (r 14)) := (HT7.out ω (hj rfl)).cell 14
    have m15 : ω.cell? ⟨tb, 15, none⟩ = some (.int .u32 (r 15)) := (HT7.out ω (hj rfl)).cell 15
    have m16 : ω.cell? ⟨tb, 16, none⟩ = some (.int .u32 px) := (HT7.out ω (hj rfl)).cell 16
    go_simp; rfl) ?_
  simp only [List.getElem_toArray, List.getElem_cons_succ, List.getElem_cons_zero, Act.put, List.setIfInBounds_toArray, List.set_cons_succ, List.set_cons_zero]
  refine wpFl_nil _ _ ?_
  refine wpCh_one _ _ _ _ rfl ?_
  simp only [List.getElem_toArray, List.getElem_cons_succ, List.getElem_cons_zero, Act.put, List.setIfInBounds_toArray, List.set_cons_succ, List.set_cons_zero]
  go_wp2_with fail
  refine (C22a.out _ HJ1.out).mono ?_
  rintro e v2 ⟨rfl, hj⟩
  have HJ2 := hid_of hj
  clear hj
  go_wp2_with fail
  refine ⟨HJ2.out, ?_⟩
  refine wpCh_rest _ _ _ _ [_, _] _ _ rfl (by kernel_rfl) ?_
  simp only [List.getElem_toArray, List.getElem_cons_succ, List.getElem_cons_zero, Act.put, List.setIfInBounds_toArray, List.set_cons_succ, List.set_cons_zero]
  go_wp2_with fail
  exact HKR.out _ _ (by kernel_rfl) HJ2.out
set_option linter.unusedVariables false in
set_option linter.unusedSimpArgs false in
set_option maxRecDepth 100000 in
set_option maxHeartbeats 16000000 in
theorem reg18_2 (rg tb pb : Nat) (hc ho : Bool) (r : Nat → Int) (px : Int) (WZ : World)
    (HG : Hid (∀ ω, Below WZ.heap.size WZ ω → ω.cell? ⟨rg, 20, none⟩ = some (.pointer (some ⟨pb, 0, none⟩)) ∧ ω.cell? ⟨rg, 4, none⟩ = some (.bool hc) ∧ ω.cell? ⟨rg, 5, none⟩ = some (.bool ho)))
    (HT7 : Hid (∀ ω, Below WZ.heap.size WZ ω → Blk ω tb #[.int .u32 (r 0), .int .u32 (r 1), .int .u32 (r 2), .int .u32 (r 3), .int .u32 (r 4), .int .u32 (r 5), .int .u32 (r 6), .int .u32 (r 7), .int .u32 (r 8), .int .u32 (r 9), .int .u32 (r 10), .int .u32 (r 11), .int .u32 (r 12), .int .u32 (r 13), .int .u32 (r 14), .int .u32 (r 15), .int .u32 px] 55))
    (C22b : Hid (∀ ω, Below WZ.heap.size WZ ω → Calls Try.prog 22 #[.pointer (some ⟨pb, 0, none⟩), .int .i64 1] ω fun e w' => e = .returned (.agg #[.int .u32 (r 0), .int .u32 (r 1), .int .u32 (r 2), .int .u32 (r 3), .int .u32 (r 4), .int .u32 (r 5), .int .u32 (r 6), .int .u32 (r 7), .int .u32 (r 8), .int .u32 (r 9), .int .u32 (r 10), .int .u32 (r 11), .int .u32 (r 12), .int .u32 (r 13), .int .u32 (r 14), .int .u32 (r 15), .int .u32 px]) ∧ Below WZ.heap.size WZ w'))
    (ops : Array Oper) (hops : (Try.f3.body.bind (findR 18)).getD .skip = .region 18 ops true) (Q : Act → World → Prop)
    (HKR : Hid (∀ (act : Act) (w' : World), act = fr3k rg (fun i => act.tmps.getD i undef) → Below WZ.heap.size WZ w' → Q act w'))
    (u : Nat → Value) (v2 : World) (HJ2 : Hid (Below WZ.heap.size WZ v2)) : wpA0 Q Try.prog ops 9 (setAll (setAll (setAll (Array.replicate ops.size false) [0, 1, 2, 3, 4, 5, 6, 7, 8, 9, 10, 11, 12]) [13, 14, 15, 16, 18]) [17, 19, 20]) (fr3i rg tb u) v2 := by
  conv at hops => lhs; whnf
  injection hops with _ ho _
  subst ho
  have h55 := eq55 r px
  unfold fr3i
  refine wpA0_fl [21, 22, 23, 24, 26] [25, 27, 28, 29] [21, 22, 23] 0 (fun ω => Below WZ.heap.size WZ ω) rfl (by kernel_rfl) (by kernel_rfl) (by kernel_rfl) (by kernel_rfl) (by kernel_rfl) HJ2.out ?_
  refine wpFl_yes _ _ _ _ rfl (by kernel_rfl) (fun ω hj => by first | (go_simp; rfl) | (obtain ⟨f1, f2, f3⟩ := HG.out ω (hj rfl); go_simp; rfl)) ?_
  simp only [List.getElem_toArray, List.getElem_cons_succ, List.getElem_cons_zero, Act.put, List.setIfInBounds_toArray, List.set_cons_succ, List.set_cons_zero]
  refine wpFl_yes _ _ _ _ rfl (by kernel_rfl) (fun ω hj => by first | (go_simp; rfl) | (obtain ⟨f1, f2, f3⟩ := HG.out ω (hj rfl); go_simp; rfl)) ?_
  simp only [List.getElem_toArray, List.getElem_cons_succ, List.getElem_cons_zero, Act.put, List.setIfInBounds_toArray, List.set_cons_succ, List.set_cons_zero]
  refine wpFl_yes _ _ _ _ rfl (by kernel_rfl) (fun ω hj => by first | (go_simp; rfl) | (obtain ⟨f1, f2, f3⟩ := HG.out ω (hj rfl); go_simp; rfl)) ?_
  simp only [List.getElem_toArray, List.getElem_cons_succ, List.getElem_cons_zero, Act.put, List.setIfInBounds_toArray, List.set_cons_succ, List.set_cons_zero]
  refine wpFl_yes _ _ _ _ rfl (by kernel_rfl) (fun ω hj => by first | (go_simp; rfl) | (obtain ⟨f1, f2, f3⟩ := HG.out ω (hj rfl); go_simp; rfl)) ?_
  simp only [List.getElem_toArray, List.getElem_cons_succ, List.getElem_cons_zero, Act.put, List.setIfInBounds_toArray, List.set_cons_succ, List.set_cons_zero]
  refine wpFl_yes _ _ _ _ rfl (by kernel_rfl) (fun ω hj => by
    have m0 : ω.cell? ⟨tb, 0, none⟩ = some (.int .u32 (r 0)) := (HT7.out ω (hj rfl)).cell 0
    have m1 : ω.cell? ⟨tb, 1, none⟩ = some (.int .u32 (r 1)) := (HT7.out ω (hj rfl)).cell 1
    have m2 : ω.cell? ⟨tb, 2, none⟩ = some (.int .u32 (r 2)) := (HT7.out ω (hj rfl)).cell 2
    have m3 : ω.cell? ⟨tb, 3, none⟩ = some (.int .u32 (r 3)) := (HT7.out ω (hj rfl)).cell 3
    have m4 : ω.cell? ⟨tb, 4, none⟩ = some (.int .u32 (r 4)) := (HT7.out ω (hj rfl)).cell 4
    have m5 : ω.cell? ⟨tb, 5, none⟩ = some (.int .u32 (r 5)) := (HT7.out ω (hj rfl)).cell 5
    have m6 : ω.cell? ⟨tb, 6, none⟩ = some (.int .u32 (r 6)) := (HT7.out ω (hj rfl)).cell 6
    have m7 : ω.cell? ⟨tb, 7, none⟩ = some (.int .u32 (r 7)) := (HT7.out ω (hj rfl)).cell 7
    have m8 : ω.cell? ⟨tb, 8, none⟩ = some (.int .u32 (r 8)) := (HT7.out ω (hj rfl)).cell 8
    have m9 : ω.cell? ⟨tb, 9, none⟩ = some (.int .u32 (r 9)) := (HT7.out ω (hj rfl)).cell 9
    have m10 : ω.cell? ⟨tb, 10, none⟩ = some (.int .u32 (r 10)) := (HT7.out ω (hj rfl)).cell 10
    have m11 : ω.cell? ⟨tb, 11, none⟩ = some (.int .u32 (r 11)) := (HT7.out ω (hj rfl)).cell 11
    have m12 : ω.cell? ⟨tb, 12, none⟩ = some (.int .u32 (r 12)) := (HT7.out ω (hj rfl)).cell 12
    have m13 : ω.cell? ⟨tb, 13, none⟩ = some (.int .u32 (r 13)) := (HT7.out ω (hj rfl)).cell 13
    have m14 : ω.cell? ⟨tb, 14, none⟩ = some (.int .u32 (r 14)) := (HT7.out ω (hj rfl)).cell 14
    have m15 : ω.cell? ⟨tb, 15, none⟩ = some (.int .u32 (r 15)) := (HT7.out ω (hj rfl)).cell 15
    have m16 : ω.cell? ⟨tb, 16, none⟩ = some (.int .u32 px) := (HT7.out ω (hj rfl)).cell 16
    go_simp; rfl) ?_
  simp only [List.getElem_toArray, List.getElem_cons_succ, List.getElem_cons_zero, Act.put, List.setIfInBounds_toArray, List.set_cons_succ, List.set_cons_zero]
  refine wpFl_nil _ _ ?_
  refine wpCh_one _ _ _ _ rfl ?_
  simp only [List.getElem_toArray, List.getElem_cons_succ, List.getElem_cons_zero, Act.put, List.setIfInBounds_toArray, List.set_cons_succ, List.set_cons_zero]
  go_wp2_with fail
  refine (C22b.out _ HJ2.out).mono ?_
  rintro e v3 ⟨rfl, hj⟩
  have HJ3 := hid_of hj
  clear hj
  go_wp2_with fail
  refine ⟨HJ3.out, ?_⟩
  refine wpCh_rest _ _ _ _ [_, _, _] _ _ rfl (by kernel_rfl) ?_
  simp only [List.getElem_toArray, List.getElem_cons_succ, List.getElem_cons_zero, Act.put, List.setIfInBounds_toArray, List.set_cons_succ, List.set_cons_zero]
  go_wp2_with fail
  refine wpA0_end (by kernel_rfl) ?_
  exact HKR.out _ _ (by kernel_rfl) HJ3.out
set_option linter.unusedVariables false in
set_option linter.unusedSimpArgs false in
set_option maxRecDepth 100000 in
set_option maxHeartbeats 16000000 in
theorem reg18_1n (rg tb pb : Nat) (hc ho : Bool) (r : Nat → Int) (px : Int) (WZ : World)
    (ops : Array Oper) (hops : (Try.f3.body.bind (findR 18)).getD .skip = .region 18 ops true) (Q : Act → World → Prop)
    (HKR : Hid (∀ (act : Act) (w' : World), act = fr3j rg tb (fun i => act.tmps.getD i undef) → Below WZ.heap.size WZ w' → wpA0 Q Try.prog ops 9 (setAll (setAll (setAll (Array.replicate ops.size false) [0, 1, 2, 3, 4, 5, 6, 7, 8, 9, 10, 11, 12]) [13, 14, 15, 16, 18]) [17, 19, 20]) act w'))
    (u : Nat → Value) (v1 : World) (HJ1 : Hid (Below WZ.heap.size WZ v1)) : wpA0 Q Try.prog ops 17 (setAll (Array.replicate ops.size false) [0, 1, 2, 3, 4, 5, 6, 7, 8, 9, 10, 11, 12]) (fr3h rg tb false u) v1 := by
  conv at hops => lhs; whnf
  injection hops with _ ho _
  subst ho
  unfold fr3h
  refine wpA0_fl [13, 14, 15, 16, 18] [17, 19, 20] [13, 14, 15, 16, 18] 9 (fun ω => Below WZ.heap.size WZ ω) rfl (by kernel_rfl) (by kernel_rfl) (by kernel_rfl) (by kernel_rfl) (by kernel_rfl) HJ1.out ?_
  refine wpFl_no _ _ _ rfl (by kernel_rfl) ?_
  simp only [List.getElem_toArray, List.getElem_cons_succ, List.getElem_cons_zero, Act.put, List.setIfInBounds_toArray, List.set_cons_succ, List.set_cons_zero]
  refine wpFl_no _ _ _ rfl (by kernel_rfl) ?_
  simp only [List.getElem_toArray, List.getElem_cons_succ, List.getElem_cons_zero, Act.put, List.setIfInBounds_toArray, List.set_cons_succ, List.set_cons_zero]
  refine wpFl_no _ _ _ rfl (by kernel_rfl) ?_
  simp only [List.getElem_toArray, List.getElem_cons_succ, List.getElem_cons_zero, Act.put, List.setIfInBounds_toArray, List.set_cons_succ, List.set_cons_zero]
  refine wpFl_no _ _ _ rfl (by kernel_rfl) ?_
  simp only [List.getElem_toArray, List.getElem_cons_succ, List.getElem_cons_zero, Act.put, List.setIfInBounds_toArray, List.set_cons_succ, List.set_cons_zero]
  refine wpFl_no _ _ _ rfl (by kernel_rfl) ?_
  simp only [List.getElem_toArray, List.getElem_cons_succ, List.getElem_cons_zero, Act.put, List.setIfInBounds_toArray, List.set_cons_succ, List.set_cons_zero]
  refine wpFl_nil _ _ ?_
  refine wpCh_rest _ _ _ _ [_, _, _] _ _ rfl (by kernel_rfl) ?_
  simp only [List.getElem_toArray, List.getElem_cons_succ, List.getElem_cons_zero, Act.put, List.setIfInBounds_toArray, List.set_cons_succ, List.set_cons_zero]
  go_wp2_with fail
  exact HKR.out _ _ (by kernel_rfl) HJ1.out
set_option linter.unusedVariables false in
set_option linter.unusedSimpArgs false in
set_option maxRecDepth 100000 in
set_option maxHeartbeats 16000000 in
theorem reg18_2n (rg tb pb : Nat) (hc ho : Bool) (r : Nat → Int) (px : Int) (WZ : World)
    (ops : Array Oper) (hops : (Try.f3.body.bind (findR 18)).getD .skip = .region 18 ops true) (Q : Act → World → Prop)
    (HKR : Hid (∀ (act : Act) (w' : World), act = fr3k rg (fun i => act.tmps.getD i undef) → Below WZ.heap.size WZ w' → Q act w'))
    (u : Nat → Value) (v2 : World) (HJ2 : Hid (Below WZ.heap.size WZ v2)) : wpA0 Q Try.prog ops 9 (setAll (setAll (setAll (Array.replicate ops.size false) [0, 1, 2, 3, 4, 5, 6, 7, 8, 9, 10, 11, 12]) [13, 14, 15, 16, 18]) [17, 19, 20]) (fr3j rg tb u) v2 := by
  conv at hops => lhs; whnf
  injection hops with _ ho _
  subst ho
  unfold fr3j
  refine wpA0_fl [21, 22, 23, 24, 26] [25, 27, 28, 29] [21, 22, 23, 24, 26] 0 (fun ω => Below WZ.heap.size WZ ω) rfl (by kernel_rfl) (by kernel_rfl) (by kernel_rfl) (by kernel_rfl) (by kernel_rfl) HJ2.out ?_
  refine wpFl_no _ _ _ rfl (by kernel_rfl) ?_
  simp only [List.getElem_toArray, List.getElem_cons_succ, List.getElem_cons_zero, Act.put, List.setIfInBounds_toArray, List.set_cons_succ, List.set_cons_zero]
  refine wpFl_no _ _ _ rfl (by kernel_rfl) ?_
  simp only [List.getElem_toArray, List.getElem_cons_succ, List.getElem_cons_zero, Act.put, List.setIfInBounds_toArray, List.set_cons_succ, List.set_cons_zero]
  refine wpFl_no _ _ _ rfl (by kernel_rfl) ?_
  simp only [List.getElem_toArray, List.getElem_cons_succ, List.getElem_cons_zero, Act.put, List.setIfInBounds_toArray, List.set_cons_succ, List.set_cons_zero]
  refine wpFl_no _ _ _ rfl (by kernel_rfl) ?_
  simp only [List.getElem_toArray, List.getElem_cons_succ, List.getElem_cons_zero, Act.put, List.setIfInBounds_toArray, List.set_cons_succ, List.set_cons_zero]
  refine wpFl_no _ _ _ rfl (by kernel_rfl) ?_
  simp only [List.getElem_toArray, List.getElem_cons_succ, List.getElem_cons_zero, Act.put, List.setIfInBounds_toArray, List.set_cons_succ, List.set_cons_zero]
  refine wpFl_nil _ _ ?_
  refine wpCh_rest _ _ _ _ [_, _, _, _] _ _ rfl (by kernel_rfl) ?_
  simp only [List.getElem_toArray, List.getElem_cons_succ, List.getElem_cons_zero, Act.put, List.setIfInBounds_toArray, List.set_cons_succ, List.set_cons_zero]
  go_wp2_with fail
  refine wpA0_end (by kernel_rfl) ?_
  exact HKR.out _ _ (by kernel_rfl) HJ2.out
set_option linter.unusedVariables false in
set_option linter.unusedSimpArgs false in
set_option maxRecDepth 100000 in
set_option maxHeartbeats 16000000 in
theorem reg18y (rg tb pb : Nat) (r : Nat → Int) (px : Int) (WZ : World)
    (HG : Hid (∀ ω, Below WZ.heap.size WZ ω → ω.cell? ⟨rg, 20, none⟩ = some (.pointer (some ⟨pb, 0, none⟩)) ∧ ω.cell? ⟨rg, 4, none⟩ = some (.bool false) ∧ ω.cell? ⟨rg, 5, none⟩ = some (.bool false)))
    (HT7 : Hid (∀ ω, Below WZ.heap.size WZ ω → Blk ω tb #[.int .u32 (r 0), .int .u32 (r 1), .int .u32 (r 2), .int .u32 (r 3), .int .u32 (r 4), .int .u32 (r 5), .int .u32 (r 6), .int .u32 (r 7), .int .u32 (r 8), .int .u32 (r 9), .int .u32 (r 10), .int .u32 (r 11), .int .u32 (r 12), .int .u32 (r 13), .int .u32 (r 14), .int .u32 (r 15), .int .u32 px] 55))
    (C22a : Hid (∀ ω, Below WZ.heap.size WZ ω → Calls Try.prog 22 #[.pointer (some ⟨pb, 0, none⟩), .int .i64 0] ω fun e w' => e = .returned (.agg #[.int .u32 (r 0), .int .u32 (r 1), .int .u32 (r 2), .int .u32 (r 3), .int .u32 (r 4), .int .u32 (r 5), .int .u32 (r 6), .int .u32 (r 7), .int .u32 (r 8), .int .u32 (r 9), .int .u32 (r 10), .int .u32 (r 11), .int .u32 (r 12), .int .u32 (r 13), .int .u32 (r 14), .int .u32 (r 15), .int .u32 px]) ∧ Below WZ.heap.size WZ w'))
    (C22b : Hid (∀ ω, Below WZ.heap.size WZ ω → Calls Try.prog 22 #[.pointer (some ⟨pb, 0, none⟩), .int .i64 1] ω fun e w' => e = .returned (.agg #[.int .u32 (r 0), .int .u32 (r 1), .int .u32 (r 2), .int .u32 (r 3), .int .u32 (r 4), .int .u32 (r 5), .int .u32 (r 6), .int .u32 (r 7), .int .u32 (r 8), .int .u32 (r 9), .int .u32 (r 10), .int .u32 (r 11), .int .u32 (r 12), .int .u32 (r 13), .int .u32 (r 14), .int .u32 (r 15), .int .u32 px]) ∧ Below WZ.heap.size WZ w'))
    (KR : Act → World → Prop) (HKR : Hid (∀ (act : Act) (w' : World), act = fr3k rg (fun i => act.tmps.getD i undef) → Below WZ.heap.size WZ w' → KR act w')) (Q0 : Exit → Act → World → Prop)
    (code : Code) (hcode : code = (Try.f3.body.bind (findR 18)).getD .skip) (u : Nat → Value) : code.wp Try.prog (Exit.then KR Q0) (fr3t rg tb u) WZ := by
  obtain ⟨l, hl⟩ : ∃ l : List Oper, code = .region 18 l.toArray true := ⟨_, by rw [hcode]; rfl⟩
  have hops := hcode.symm.trans hl
  rw [hl]
  have hlen : 30 = l.length := by
    rw [hcode] at hl
    conv at hl => lhs; whnf
    injection hl with _ ho _
    exact (congrArg Array.size ho).trans (List.size_toArray ..)
  refine wp_region_stages mixed 30 hlen ?_
  refine reg18_0yy rg tb pb false false r px WZ HG l.toArray hops _ ?_ u _ ⟨rfl, rfl, rfl, Nat.le_refl _, fun _ _ => rfl⟩
  intro a1 v1 h1 k1
  rw [h1]
  refine reg18_1 rg tb pb false false r px WZ HG HT7 C22a l.toArray hops _ ?_ _ _ (hid_of k1)
  intro a2 v2 h2 k2
  rw [h2]
  refine reg18_2 rg tb pb false false r px WZ HG HT7 C22b l.toArray hops _ ?_ _ _ (hid_of k2)
  intro a3 v3 h3 k3
  exact HKR.out _ _ h3 k3
set_option linter.unusedVariables false in
set_option linter.unusedSimpArgs false in
set_option maxRecDepth 100000 in
set_option maxHeartbeats 16000000 in
theorem reg18c (rg tb pb : Nat) (ho : Bool) (r : Nat → Int) (px : Int) (WZ : World)
    (HG : Hid (∀ ω, Below WZ.heap.size WZ ω → ω.cell? ⟨rg, 20, none⟩ = some (.pointer (some ⟨pb, 0, none⟩)) ∧ ω.cell? ⟨rg, 4, none⟩ = some (.bool true) ∧ ω.cell? ⟨rg, 5, none⟩ = some (.bool ho)))
    (KR : Act → World → Prop) (HKR : Hid (∀ (act : Act) (w' : World), act = fr3k rg (fun i => act.tmps.getD i undef) → Below WZ.heap.size WZ w' → KR act w')) (Q0 : Exit → Act → World → Prop)
    (code : Code) (hcode : code = (Try.f3.body.bind (findR 18)).getD .skip) (u : Nat → Value) : code.wp Try.prog (Exit.then KR Q0) (fr3t rg tb u) WZ := by
  obtain ⟨l, hl⟩ : ∃ l : List Oper, code = .region 18 l.toArray true := ⟨_, by rw [hcode]; rfl⟩
  have hops := hcode.symm.trans hl
  rw [hl]
  have hlen : 30 = l.length := by
    rw [hcode] at hl
    conv at hl => lhs; whnf
    injection hl with _ ho _
    exact (congrArg Array.size ho).trans (List.size_toArray ..)
  refine wp_region_stages mixed 30 hlen ?_
  refine reg18_0c rg tb pb true ho r px WZ HG l.toArray hops _ ?_ u _ ⟨rfl, rfl, rfl, Nat.le_refl _, fun _ _ => rfl⟩
  intro a1 v1 h1 k1
  rw [h1]
  refine reg18_1n rg tb pb true ho r px WZ l.toArray hops _ ?_ _ _ (hid_of k1)
  intro a2 v2 h2 k2
  rw [h2]
  refine reg18_2n rg tb pb true ho r px WZ l.toArray hops _ ?_ _ _ (hid_of k2)
  intro a3 v3 h3 k3
  exact HKR.out _ _ h3 k3
set_option linter.unusedVariables false in
set_option linter.unusedSimpArgs false in
set_option maxRecDepth 100000 in
set_option maxHeartbeats 16000000 in
theorem reg18o (rg tb pb : Nat) (r : Nat → Int) (px : Int) (WZ : World)
    (HG : Hid (∀ ω, Below WZ.heap.size WZ ω → ω.cell? ⟨rg, 20, none⟩ = some (.pointer (some ⟨pb, 0, none⟩)) ∧ ω.cell? ⟨rg, 4, none⟩ = some (.bool false) ∧ ω.cell? ⟨rg, 5, none⟩ = some (.bool true)))
    (KR : Act → World → Prop) (HKR : Hid (∀ (act : Act) (w' : World), act = fr3k rg (fun i => act.tmps.getD i undef) → Below WZ.heap.size WZ w' → KR act w')) (Q0 : Exit → Act → World → Prop)
    (code : Code) (hcode : code = (Try.f3.body.bind (findR 18)).getD .skip) (u : Nat → Value) : code.wp Try.prog (Exit.then KR Q0) (fr3t rg tb u) WZ := by
  obtain ⟨l, hl⟩ : ∃ l : List Oper, code = .region 18 l.toArray true := ⟨_, by rw [hcode]; rfl⟩
  have hops := hcode.symm.trans hl
  rw [hl]
  have hlen : 30 = l.length := by
    rw [hcode] at hl
    conv at hl => lhs; whnf
    injection hl with _ ho _
    exact (congrArg Array.size ho).trans (List.size_toArray ..)
  refine wp_region_stages mixed 30 hlen ?_
  refine reg18_0o rg tb pb false true r px WZ HG l.toArray hops _ ?_ u _ ⟨rfl, rfl, rfl, Nat.le_refl _, fun _ _ => rfl⟩
  intro a1 v1 h1 k1
  rw [h1]
  refine reg18_1n rg tb pb false true r px WZ l.toArray hops _ ?_ _ _ (hid_of k1)
  intro a2 v2 h2 k2
  rw [h2]
  refine reg18_2n rg tb pb false true r px WZ l.toArray hops _ ?_ _ _ (hid_of k2)
  intro a3 v3 h3 k3
  exact HKR.out _ _ h3 k3
end Go.Proofs.Qxb6500749a
